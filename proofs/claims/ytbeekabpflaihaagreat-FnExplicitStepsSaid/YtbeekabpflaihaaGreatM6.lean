/- Texts of the own layer and contracts, part 6: C0 C1 C4 C5 C6 C7 C8 C2 C9 C10 C11 C12 C13 W0 P0 F0 F1 F2 F3 F4 F5 F6 P1 P2 P3 P4 P5 P6 F7 Q0 G0 G1 Q1 Q2 L3 Q9 Q10 Q11 Q12 Q13 Q3 Q4 Q5 P7 Q6 Q7 Q8 Q14 W12 Q29 W13 V2 Q35. -/
import Derived.Test.YtbeekabpflaihaaGreatM5
namespace Go.Abs
def avs (xs : List Int) : List AV := xs.map AV.int
@[simp] theorem avs_len (xs : List Int) : (avs xs).length = xs.length := by simp [avs]
@[simp] theorem avs_nil : avs [] = [] := rfl
theorem avs_snoc (xs : List Int) (x : Int) : avs (xs ++ [x]) = avs xs ++ [.val (.int .i64 x)] := by simp [avs]
theorem avs_cons (xs : List Int) (x : Int) : avs (x :: xs) = .val (.int .i64 x) :: avs xs := by simp [avs]
theorem avs_app (xs ys : List Int) : avs (xs ++ ys) = avs xs ++ avs ys := by simp [avs]
theorem avs_drop {xs : List Int} {k : Nat} (h : k < xs.length) : (avs xs).drop k = .val (.int .i64 (xs.getD k 0)) :: avs (xs.drop (k + 1)) := by
  rw [avs, ← List.map_drop, List.drop_eq_getElem_cons h, List.map_cons]; simp [h, avs]
@[simp] theorem avs_inj {xs ys : List Int} : (avs xs = avs ys) = (xs = ys) := by
  apply propext
  constructor
  · intro h
    induction xs generalizing ys with
    | nil => cases ys with
      | nil => rfl
      | cons y ys => simp [avs] at h
    | cons x xs ih => cases ys with
      | nil => simp [avs] at h
      | cons y ys =>
        rw [avs_cons, avs_cons] at h
        injection h with h1 h2
        injection h1 with h1
        injection h1 with _ h1
        rw [h1, ih h2]
  · rintro rfl; rfl
theorem avs_set (xs : List Int) (k : Nat) (x : Int) : (avs xs).set k (.val (.int .i64 x)) = avs (xs.set k x) := by
  simp [avs, List.map_set]
theorem avs_repl (n : Nat) (x : Int) : List.replicate n (AV.val (.int .i64 x)) = avs (List.replicate n x) := by simp [avs]
@[simp] theorem avs_fresh (xs : List Int) : freshL (avs xs) = true := by
  induction xs with
  | nil => rfl
  | cons x xs ih => simp [avs_cons, freshL, ih, freshOK]
@[simp] theorem avs_frz (xs : List Int) : frzL (avs xs) = avs xs := by
  induction xs with
  | nil => rfl
  | cons x xs ih => simp [avs_cons, frzL, ih, frz]
@[simp] theorem avs_kl (W : List Nat) (xs : List Int) : klL W (avs xs) = avs xs := by
  induction xs with
  | nil => rfl
  | cons x xs ih => simp [avs_cons, klL, ih, kl]
@[simp] theorem avs_own (xs : List Int) : hasOwnL (avs xs) = false := by
  induction xs with
  | nil => rfl
  | cons x xs ih => simp [avs_cons, hasOwnL, ih, hasOwn]
@[simp] theorem avs_ne {xs : List Int} : (avs xs = []) = (xs = []) := by
  cases xs <;> simp [avs]
theorem tmod_up {n : Int} (h : 0 ≤ n) (m : Int) : n.tmod m = n % m := Int.tmod_eq_emod_of_nonneg h
theorem tdiv_up {n : Int} (h : 0 ≤ n) (m : Int) : n.tdiv m = n / m := Int.tdiv_eq_ediv_of_nonneg h
theorem num_law (n : Int) : (n.tmod 10007 + 10007).tmod 10007 = n % 10007 := by
  rw [Int.tmod_eq_emod, Int.tmod_eq_emod]; split <;> split <;> simp_all <;> omega
theorem num_low (n : Int) : -10007 < n.tmod 10007 ∧ n.tmod 10007 < 10007 := by
  constructor
  · rw [Int.tmod_eq_emod]; split <;> simp_all <;> omega
  · exact Int.tmod_lt_of_pos n (by omega)
end Go.Abs


namespace Go.Proofs.YtbeekabpflaihaaGreat
open Go.Abs
set_option linter.unusedSectionVars false
set_option linter.unusedVariables false
set_option linter.unusedSimpArgs false
set_option maxHeartbeats 400000
theorem inRange_c (n a b : Int) : Con Tryz.prog 108 [.int n, .int a, .int b] (.bool (decide (a ≤ n) && decide (n ≤ b))) := by
  refine con_of_vc Tryz.mixed ⟨4, [], [], []⟩ Tryz.func108 (by decide) rfl (by simp) (by decide) rfl ?_
  rw [Tryz.ntmps108]
  simp [go_sem]
  refine ⟨fun h => ?_, fun h => ?_⟩ <;> simp at h <;> simp [go_sem, h] <;> omega
theorem l01In_c (n a b : Int) : Con Tryz.prog 98 [.int n, .int a, .int b] (.bool (decide (a ≤ n) && decide (n ≤ b))) := by
  refine con_of_vc Tryz.mixed ⟨4, [], [], []⟩ Tryz.func98 (by decide) rfl (by simp) (by decide) rfl ?_
  rw [Tryz.ntmps98]
  simp [go_sem]
  refine ⟨fun h => ?_, fun h => ?_⟩ <;> simp at h <;> simp [go_sem, h] <;> omega
def held (xs : List Int) (k : Int) : Int := if xs = (List.range xs.length).map (fun (i : Nat) => k + i) then k + xs.length else -1
end Go.Proofs.YtbeekabpflaihaaGreat


namespace Go.Proofs.YtbeekabpflaihaaGreat
open Go.Abs
set_option linter.unusedSectionVars false
set_option linter.unusedVariables false
set_option linter.unusedSimpArgs false
set_option maxHeartbeats 1000000
def idxF {α : Type} (p : α → Bool) : List α → Int
  | [] => -1
  | x :: xs => if p x then 0 else if idxF p xs = -1 then -1 else idxF p xs + 1
theorem idxF_ge {α : Type} (p : α → Bool) : ∀ xs : List α, -1 ≤ idxF p xs ∧ idxF p xs < xs.length
  | [] => by simp [idxF]
  | x :: xs => by
    have := idxF_ge p xs
    simp only [idxF, List.length_cons]
    split
    · omega
    · split <;> omega
theorem idxF_any {α : Type} (p : α → Bool) (xs : List α) : decide (0 ≤ idxF p xs) = xs.any p := by
  induction xs with
  | nil => simp [idxF]
  | cons x xs ih =>
    have := idxF_ge p xs
    simp only [idxF, List.any_cons, ← ih]
    by_cases hp : p x = true
    · simp [hp]
    · simp only [hp]
      simp
      split
      · rename_i e; simp [e]
      · by_cases h : 0 ≤ idxF p xs <;> simp [h] <;> omega
theorem idxF_skip {α : Type} (p : α → Bool) : ∀ (xs : List α) (i : Nat), (∀ x ∈ xs.take i, p x = false) → i ≤ xs.length → (idxF p xs = if idxF p (xs.drop i) = -1 then -1 else idxF p (xs.drop i) + i)
  | xs, 0, h, hl => by simp
  | [], i + 1, h, hl => by simp at hl
  | x :: xs, i + 1, h, hl => by
    have h1 : p x = false := h x (by simp)
    have h2 := idxF_skip p xs i (fun y hy => h y (by simp [hy])) (by simpa using hl)
    simp only [idxF, h1, List.drop_succ_cons]
    have := (idxF_ge p (xs.drop i)).1
    simp
    rw [h2]
    split
    · simp
    · rename_i hne
      rw [if_neg (by omega)]
      omega
theorem IndexFuncI_c (g : FuncId) (p : Int → Bool) (xs : List Int) (hl : xs.length ≤ 9223372036854775807) (hg : ∀ x ∈ xs, Con Tryz.prog g [.int x] (.bool (p x))) :
    Con Tryz.prog 187 [.sl xs.length (avs xs), .val (.func (.func g) #[] #[])] (.int (idxF p xs)) := by
  refine con_of_vc Tryz.mixed ⟨6, [], [], []⟩ Tryz.func187 (by decide) rfl (by simp) (by decide) rfl ?_
  rw [Tryz.ntmps187]
  simp [go_sem]
  refine loop_inv (5 :: List.range' 8 20) (fun i : Nat => [(8, .int i)]) (fun i => i ≤ xs.length ∧ ∀ x ∈ xs.take i, p x = false) (fun i => xs.length - i) 0 (by simp) (by simp [go_sem]) (by simp [go_sem]) ?_
  rintro i ⟨hi, hf⟩
  simp [go_sem]
  have sk := idxF_skip p xs i hf hi
  refine ⟨fun h => ?_, fun h => ?_⟩ <;> simp at h
  · have hx : xs[i]?.getD 0 ∈ xs := by simp [h]
    have hd : xs.drop i = xs[i]?.getD 0 :: xs.drop (i + 1) := by rw [List.drop_eq_getElem_cons h]; simp [h]
    simp [go_sem, avs_drop h]
    refine ⟨⟨h, by rintro rfl; simp at h⟩, CallVC.of (hg _ hx) (by decide) ?_⟩
    simp [go_sem]
    refine ⟨fun h2 => ?_, fun h2 => ?_⟩ <;> simp [go_sem]
    · rw [sk, hd]; simp [idxF, h2]
    · refine ⟨by omega, i + 1, ⟨by omega, ?_⟩, by omega, Off_reset _ _ _ (by simp), by omega⟩
      intro x hx2
      rw [List.take_add_one, List.getElem?_eq_getElem h, Option.toList_some, List.mem_append, List.mem_singleton] at hx2
      rcases hx2 with hx2 | hx2
      · exact hf x hx2
      · rw [hx2]; simpa [h] using h2
  · simp [go_sem]
    rw [sk, List.drop_eq_nil_of_le h]; simp [idxF]
theorem ContainsFuncI_c (g : FuncId) (p : Int → Bool) (xs : List Int) (hl : xs.length ≤ 9223372036854775807) (hg : ∀ x ∈ xs, Con Tryz.prog g [.int x] (.bool (p x))) :
    Con Tryz.prog 136 [.sl xs.length (avs xs), .val (.func (.func g) #[] #[])] (.bool (xs.any p)) := by
  refine con_of_vc Tryz.mixed ⟨5, [], [], []⟩ Tryz.func136 (by decide) rfl (by simp) (by decide) rfl ?_
  rw [Tryz.ntmps136]
  simp [go_sem]
  refine CallVC.of (IndexFuncI_c g p xs hl hg) (by decide) ?_
  simp [go_sem, idxF_any]
theorem IsNumber_c (a : Int) : Con Tryz.prog 73 [.int a] (.bool (decide (0 ≤ a ∧ a ≤ 10006))) := by
  refine con_of_vc Tryz.mixed ⟨3, [], [], []⟩ Tryz.func73 (by decide) rfl (by simp) (by decide) rfl ?_
  rw [Tryz.ntmps73]
  simp [go_sem]
  refine CallVC.of (inRange_c _ _ _) (by decide) ?_
  simp [go_sem]
theorem notNumber_c (a : Int) : Con Tryz.prog 137 [.int a] (.bool (!decide (0 ≤ a ∧ a ≤ 10006))) := by
  refine con_of_vc Tryz.mixed ⟨3, [], [], []⟩ Tryz.func137 (by decide) rfl (by simp) (by decide) rfl ?_
  rw [Tryz.ntmps137]
  simp [go_sem]
  refine CallVC.of (IsNumber_c _) (by decide) ?_
  simp [go_sem]
def numsB (xs : List Int) : Bool := xs.all fun a => decide (0 ≤ a ∧ a ≤ 10006)
theorem areNumbers_c (xs : List Int) (hl : xs.length ≤ 9223372036854775807) : Con Tryz.prog 72 [.sl xs.length (avs xs)] (.bool (numsB xs)) := by
  refine con_of_vc Tryz.mixed ⟨3, [], [], []⟩ Tryz.func72 (by decide) rfl (by simp) (by decide) rfl ?_
  rw [Tryz.ntmps72]
  simp [go_sem]
  refine CallVC.of (ContainsFuncI_c _ _ xs hl (fun x _ => notNumber_c x)) (by decide) ?_
  simp [go_sem, numsB, List.not_any_eq_all_not]
end Go.Proofs.YtbeekabpflaihaaGreat


namespace Go.Proofs.YtbeekabpflaihaaGreat
open Go.Abs
set_option linter.unusedSectionVars false
set_option linter.unusedVariables false
set_option linter.unusedSimpArgs false
set_option maxHeartbeats 1000000
def mat (xss : List (List Int)) : List AV := xss.map fun r => .sl r.length (avs r)
@[simp] theorem mat_len (xss : List (List Int)) : (mat xss).length = xss.length := by simp [mat]
theorem mat_drop {xss : List (List Int)} {k : Nat} (h : k < xss.length) : (mat xss).drop k = .sl (xss[k]?.getD []).length (avs (xss[k]?.getD [])) :: mat (xss.drop (k + 1)) := by
  rw [mat, ← List.map_drop, List.drop_eq_getElem_cons h, List.map_cons]; simp [h, mat]
@[simp] theorem mat_ne {xss : List (List Int)} : (mat xss = []) = (xss = []) := by cases xss <;> simp [mat]
theorem IndexFuncM_c (g : FuncId) (s : Int) (p : List Int → Bool) (xss : List (List Int)) (hl : xss.length ≤ 9223372036854775807) (hg : ∀ x ∈ xss, Con Tryz.prog g [.sl x.length (avs x), .fptr [.int s]] (.bool (p x))) :
    Con Tryz.prog 186 [.sl xss.length (mat xss), .fn g [.fptr [.int s]]] (.int (idxF p xss)) := by
  refine con_of_vc Tryz.mixed ⟨6, [], [], []⟩ Tryz.func186 (by decide) rfl (by simp) (by decide) rfl ?_
  rw [Tryz.ntmps186]
  simp [go_sem]
  refine loop_inv (5 :: List.range' 8 20) (fun i : Nat => [(8, .int i)]) (fun i => i ≤ xss.length ∧ ∀ x ∈ xss.take i, p x = false) (fun i => xss.length - i) 0 (by simp) (by simp [go_sem]) (by simp [go_sem]) ?_
  rintro i ⟨hi, hf⟩
  simp [go_sem]
  have sk := idxF_skip p xss i hf hi
  refine ⟨fun h => ?_, fun h => ?_⟩ <;> simp at h
  · have hx : xss[i]?.getD [] ∈ xss := by simp [h]
    have hd : xss.drop i = xss[i]?.getD [] :: xss.drop (i + 1) := by rw [List.drop_eq_getElem_cons h]; simp [h]
    simp [go_sem, mat_drop h]
    refine ⟨⟨h, by rintro rfl; simp at h⟩, CallVC.of (hg _ hx) (by decide) ?_⟩
    simp [go_sem]
    refine ⟨fun h2 => ?_, fun h2 => ?_⟩ <;> simp [go_sem]
    · rw [sk, hd]; simp [idxF, h2]
    · refine ⟨by omega, i + 1, ⟨by omega, ?_⟩, by omega, Off_reset _ _ _ (by simp), by omega⟩
      intro x hx2
      rw [List.take_add_one, List.getElem?_eq_getElem h, Option.toList_some, List.mem_append, List.mem_singleton] at hx2
      rcases hx2 with hx2 | hx2
      · exact hf x hx2
      · rw [hx2]; simpa [h] using h2
  · simp [go_sem]
    rw [sk, List.drop_eq_nil_of_le h]; simp [idxF]
theorem ContainsFuncM_c (g : FuncId) (s : Int) (p : List Int → Bool) (xss : List (List Int)) (hl : xss.length ≤ 9223372036854775807) (hg : ∀ x ∈ xss, Con Tryz.prog g [.sl x.length (avs x), .fptr [.int s]] (.bool (p x))) :
    Con Tryz.prog 134 [.sl xss.length (mat xss), .fn g [.fptr [.int s]]] (.bool (xss.any p)) := by
  refine con_of_vc Tryz.mixed ⟨5, [], [], []⟩ Tryz.func134 (by decide) rfl (by simp) (by decide) rfl ?_
  rw [Tryz.ntmps134]
  simp [go_sem]
  refine CallVC.of (IndexFuncM_c g s p xss hl hg) (by decide) ?_
  simp [go_sem, idxF_any]
theorem badRow_c (x : List Int) (s : Int) (hl : x.length ≤ 9223372036854775807) : Con Tryz.prog 135 [.sl x.length (avs x), .fptr [.int s]] (.bool (!(decide ((x.length : Int) = s) && numsB x))) := by
  refine con_of_vc Tryz.mixed ⟨4, [], [], []⟩ Tryz.func135 (by decide) rfl (by simp) (by decide) rfl ?_
  rw [Tryz.ntmps135]
  simp [go_sem]
  by_cases h : (x.length : Int) = s
  · simp [go_sem, h]
    refine CallVC.of (areNumbers_c x hl) (by decide) ?_
    simp [go_sem, h]
  · simp [go_sem, h]
theorem length_c (n : Nat) (cs : List AV) (hn : n ≤ 9223372036854775807) : Con Tryz.prog 112 [.sl n cs] (.int n) := by
  refine con_of_vc Tryz.mixed ⟨3, [], [], []⟩ Tryz.func112 (by decide) rfl (by simp) (by decide) rfl ?_
  rw [Tryz.ntmps112]
  simp [go_sem]
  try omega
def tabB (A : List (List Int)) (B : List Int) : Bool := decide (1 ≤ B.length ∧ B.length ≤ 8 ∧ A.length = B.length) && numsB B && A.all fun r => decide (r.length = B.length) && numsB r
theorem IsTableau_c (A : List (List Int)) (B : List Int) (hA : A.length ≤ 9223372036854775807) (hB : B.length ≤ 9223372036854775807) (hr : ∀ r ∈ A, r.length ≤ 9223372036854775807) :
    Con Tryz.prog 71 [.agg [.sl A.length (mat A), .sl B.length (avs B)]] (.bool (tabB A B)) := by
  refine con_of_vc Tryz.mixed ⟨4, [], [], []⟩ Tryz.func71 (by decide) rfl (by simp) (by decide) rfl ?_
  rw [Tryz.ntmps71]
  simp [go_sem]
  refine CallVC.of (length_c _ _ hB) (by decide) ?_
  simp [go_sem]
  have cR := inRange_c B.length 1 8
  by_cases h1 : 1 ≤ B.length ∧ B.length ≤ 8
  · have e1 : (decide ((1 : Int) ≤ B.length) && decide ((B.length : Int) ≤ 8)) = true := by simp; omega
    rw [e1] at cR
    refine CallVC.of cR (by decide) ?_
    by_cases h2 : A.length = B.length
    · have h2' : (A.length : Int) = B.length := by omega
      simp [go_sem, h2, h2']
      refine CallVC.of (areNumbers_c B hB) (by decide) ?_
      by_cases h3 : numsB B = true
      · simp [go_sem, h3]
        have cM := ContainsFuncM_c 135 B.length (fun x => !(decide ((x.length : Int) = B.length) && numsB x)) A hA (fun x hx => badRow_c x B.length (hr x hx))
        rw [h2] at cM
        refine CallVC.of cM (by decide) ?_
        simp [go_sem, tabB, h1, h2, h3]
        rw [List.any_eq_not_all_not]
        congr 2
        funext r
        simp [show ((r.length : Int) = B.length) = (r.length = B.length) from propext ⟨fun e => by omega, fun e => by omega⟩]
      · simp at h3
        simp [go_sem, h3, tabB]
    · have h2' : ¬ (A.length : Int) = B.length := by omega
      simp [go_sem, h2, h2', tabB]
  · have e1 : (decide ((1 : Int) ≤ B.length) && decide ((B.length : Int) ≤ 8)) = false := by simp; omega
    rw [e1] at cR
    refine CallVC.of cR (by decide) ?_
    have e3 : tabB A B = false := by
      unfold tabB
      have : decide (1 ≤ B.length ∧ B.length ≤ 8 ∧ A.length = B.length) = false := by simp; omega
      rw [this]; simp
    rw [e3]
    simp [go_sem]
end Go.Proofs.YtbeekabpflaihaaGreat


namespace Go.Proofs.YtbeekabpflaihaaGreat
open Go.Abs
set_option linter.unusedSectionVars false
set_option linter.unusedVariables false
set_option linter.unusedSimpArgs false
set_option maxHeartbeats 1000000
end Go.Proofs.YtbeekabpflaihaaGreat


namespace Go.Proofs.YtbeekabpflaihaaGreat
open Go.Abs
set_option linter.unusedSectionVars false
set_option linter.unusedVariables false
set_option linter.unusedSimpArgs false
set_option maxHeartbeats 1000000
def omat (A : List (List Int)) : List AV := A.map fun r => .own 2 r.length (avs r)
@[simp] theorem omat_len (A : List (List Int)) : (omat A).length = A.length := by simp [omat]
@[simp] theorem omat_frz (A : List (List Int)) : frzL (omat A) = mat A := by
  induction A with
  | nil => rfl
  | cons r A ih => simp only [omat, mat, List.map_cons, frzL] at ih ⊢; rw [ih]; simp [frz]
@[simp] theorem omat_fresh (A : List (List Int)) : freshL (omat A) = true := by
  induction A with
  | nil => rfl
  | cons r A ih => simp only [omat, List.map_cons, freshL] at ih ⊢; rw [ih]; simp [freshOK]
end Go.Proofs.YtbeekabpflaihaaGreat


namespace Go.Proofs.YtbeekabpflaihaaGreat
open Go.Abs
set_option linter.unusedSectionVars false
set_option linter.unusedVariables false
set_option linter.unusedSimpArgs false
set_option maxHeartbeats 1000000
end Go.Proofs.YtbeekabpflaihaaGreat


namespace Go.Proofs.YtbeekabpflaihaaGreat
open Go.Abs
set_option linter.unusedSectionVars false
set_option linter.unusedVariables false
set_option linter.unusedSimpArgs false
set_option maxHeartbeats 1000000
def pw (a k : Int) : Int := a ^ k.toNat % 10007
theorem num_c (n : Int) (h0 : -9223372036854775808 ≤ n) (h1 : n ≤ 9223372036854775807) : Con Tryz.prog 50 [.int n] (.int (n % 10007)) := by
  have e := num_law n
  have b := num_low n
  refine con_of_vc Tryz.mixed ⟨3, [], [], []⟩ Tryz.func50 (by decide) rfl (by simp) (by decide) rfl ?_
  rw [Tryz.ntmps50]
  simp [go_sem, e]
  omega
theorem l01Mod_c (n : Int) (h0 : -9223372036854775808 ≤ n) (h1 : n ≤ 9223372036854775807) : Con Tryz.prog 103 [.int n] (.int (n % 10007)) := by
  have e := num_law n
  have b := num_low n
  refine con_of_vc Tryz.mixed ⟨3, [], [], []⟩ Tryz.func103 (by decide) rfl (by simp) (by decide) rfl ?_
  rw [Tryz.ntmps103]
  simp [go_sem, e]
  omega
def fits (n : Int) : Prop := -9223372036854775808 ≤ n ∧ n ≤ 9223372036854775807
theorem l01Mul_c (a b : Int) (h : fits (a * b)) : Con Tryz.prog 102 [.int a, .int b] (.int (a * b % 10007)) := by
  refine con_of_vc Tryz.mixed ⟨5, [], [], []⟩ Tryz.func102 (by decide) rfl (by simp) (by decide) rfl ?_
  rw [Tryz.ntmps102]
  simp [go_sem]
  refine ⟨h, CallVC.of (l01Mod_c _ h.1 h.2) (by decide) ?_⟩
  simp [go_sem]
theorem l01Sub_c (a b : Int) (h : fits (a - b)) : Con Tryz.prog 150 [.int a, .int b] (.int ((a - b) % 10007)) := by
  refine con_of_vc Tryz.mixed ⟨5, [], [], []⟩ Tryz.func150 (by decide) rfl (by simp) (by decide) rfl ?_
  rw [Tryz.ntmps150]
  simp [go_sem]
  refine ⟨h, CallVC.of (l01Mod_c _ h.1 h.2) (by decide) ?_⟩
  simp [go_sem]
theorem l01Add_c (a b : Int) (h : fits (a + b)) : Con Tryz.prog 167 [.int a, .int b] (.int ((a + b) % 10007)) := by
  refine con_of_vc Tryz.mixed ⟨5, [], [], []⟩ Tryz.func167 (by decide) rfl (by simp) (by decide) rfl ?_
  rw [Tryz.ntmps167]
  simp [go_sem]
  refine ⟨h, CallVC.of (l01Mod_c _ h.1 h.2) (by decide) ?_⟩
  simp [go_sem]
def isN (a : Int) : Prop := 0 ≤ a ∧ a < 10007
theorem isN_mod (n : Int) : isN (n % 10007) := ⟨Int.emod_nonneg _ (by omega), Int.emod_lt_of_pos _ (by omega)⟩
theorem mul_bound {a b : Int} (ha : isN a) (hb : isN b) : 0 ≤ a * b ∧ a * b ≤ 100120036 := by
  obtain ⟨a0, a1⟩ := ha
  obtain ⟨b0, b1⟩ := hb
  exact ⟨Int.mul_nonneg a0 b0, Int.le_trans (Int.mul_le_mul_of_nonneg_right (show a ≤ 10006 by omega) b0) (by omega)⟩
theorem mul_fits {a b : Int} (ha : isN a) (hb : isN b) : fits (a * b) := by
  have := mul_bound ha hb
  exact ⟨by omega, by omega⟩
theorem add_fits {a b : Int} (ha : isN a) (hb : isN b) : fits (a + b) := by
  obtain ⟨a0, a1⟩ := ha
  obtain ⟨b0, b1⟩ := hb
  exact ⟨by omega, by omega⟩
theorem sub_fits {a b : Int} (ha : isN a) (hb : isN b) : fits (a - b) := by
  obtain ⟨a0, a1⟩ := ha
  obtain ⟨b0, b1⟩ := hb
  exact ⟨by omega, by omega⟩
theorem pow_mod (a : Int) (k : Nat) : (a % 10007) ^ k % 10007 = a ^ k % 10007 := by
  induction k with
  | zero => simp
  | succ k ih => rw [Int.pow_succ, Int.pow_succ, Int.mul_emod, ih, Int.emod_emod, ← Int.mul_emod]
theorem sq_pow (a : Int) (q : Nat) : (a * a) ^ q = a ^ (2 * q) := by
  induction q with
  | zero => simp
  | succ q ih => rw [Int.pow_succ, ih, show 2 * (q + 1) = 2 * q + 1 + 1 by omega, Int.pow_succ, Int.pow_succ, Int.mul_assoc]
theorem mod_mul_r (o x : Int) : o * (x % 10007) % 10007 = o * x % 10007 := by
  rw [Int.mul_emod, Int.emod_emod, ← Int.mul_emod]
theorem mod_mul_l (o x : Int) : (x % 10007) * o % 10007 = x * o % 10007 := by
  rw [Int.mul_emod, Int.emod_emod, ← Int.mul_emod]
theorem pw_even (o a : Int) (q : Nat) : o * (a * a % 10007) ^ q % 10007 = o * a ^ (2 * q) % 10007 := by
  rw [← mod_mul_r, pow_mod, mod_mul_r, sq_pow]
theorem pw_odd (o a : Int) (q : Nat) : (o * a % 10007) * (a * a % 10007) ^ q % 10007 = o * a ^ (2 * q + 1) % 10007 := by
  rw [pw_even, mod_mul_l, Int.pow_succ, Int.mul_assoc, Int.mul_comm (a ^ (2 * q)) a]
theorem half_cast (j : Nat) : (j : Int).tdiv 2 = ((j / 2 : Nat) : Int) := by rw [tdiv_up (by omega)]; omega
theorem bit_cast (j : Nat) : (j : Int).tmod 2 = ((j % 2 : Nat) : Int) := by rw [tmod_up (by omega)]; omega
theorem pow_c (a k : Int) (ha : isN a) (hk : 0 ≤ k) (hk2 : k ≤ 9223372036854775807) : Con Tryz.prog 84 [.int a, .int k] (.int (pw a k)) := by
  refine con_of_vc Tryz.mixed ⟨6, [], [], []⟩ Tryz.func84 (by decide) rfl (by simp) (by decide) rfl ?_
  rw [Tryz.ntmps84]
  simp [go_sem]
  refine loop_inv (0 :: 1 :: List.range' 4 30) (fun x : Int × Nat × Int => [(0, .int x.1), (1, .int x.2.1), (5, .int x.2.2)])
    (fun x => isN x.1 ∧ (x.2.1 : Int) ≤ 9223372036854775807 ∧ isN x.2.2 ∧ x.2.2 * x.1 ^ x.2.1 % 10007 = a ^ k.toNat % 10007) (fun x => x.2.1) (a, k.toNat, 1) ⟨ha, by simp; omega, ⟨by simp, by simp⟩, by simp⟩ (by simp [go_sem]; omega) (by simp [go_sem]) ?_
  rintro ⟨b, j, o⟩ ⟨hb, hj, ho, he⟩
  simp only at hb hj ho he
  have f1 := mul_fits hb hb
  have f2 := mul_fits ho hb
  simp [go_sem]
  refine ⟨fun h => ?_, fun h => ?_⟩ <;> simp at h
  · simp [go_sem, half_cast, bit_cast]
    refine ⟨fun h2 => ?_, fun h2 => ?_⟩ <;> simp at h2 <;> simp [go_sem]
    · refine ⟨f2, CallVC.of (num_c _ f2.1 f2.2) (by decide) ?_⟩
      simp [go_sem]
      refine ⟨f1, CallVC.of (num_c _ f1.1 f1.2) (by decide) ?_⟩
      simp [go_sem, half_cast, bit_cast]
      refine ⟨by omega, b * b % 10007, j / 2, o * b % 10007, ⟨isN_mod _, by omega, isN_mod _, ?_⟩, by omega, Off_reset _ _ _ (by simp), rfl, by omega, rfl⟩
      rw [pw_odd, show 2 * (j / 2) + 1 = j by omega, he]
    · refine ⟨f1, CallVC.of (num_c _ f1.1 f1.2) (by decide) ?_⟩
      simp [go_sem, half_cast, bit_cast]
      refine ⟨by omega, b * b % 10007, j / 2, o, ⟨isN_mod _, by omega, ho, ?_⟩, by omega, Off_reset _ _ _ (by simp), rfl, by omega, rfl⟩
      rw [pw_even, show 2 * (j / 2) = j by omega, he]
  · simp [go_sem]
    subst h
    unfold pw
    rw [← he]
    simp
    rw [Int.emod_eq_of_lt ho.1 ho.2]
theorem l01Pow_c (a k : Int) (ha : isN a) (hk : 0 ≤ k) (hk2 : k ≤ 9223372036854775807) : Con Tryz.prog 159 [.int a, .int k] (.int (pw a k)) := by
  refine con_of_vc Tryz.mixed ⟨6, [], [], []⟩ Tryz.func159 (by decide) rfl (by simp) (by decide) rfl ?_
  rw [Tryz.ntmps159]
  simp [go_sem]
  refine loop_inv (0 :: 1 :: List.range' 4 30) (fun x : Int × Nat × Int => [(0, .int x.1), (1, .int x.2.1), (5, .int x.2.2)])
    (fun x => isN x.1 ∧ (x.2.1 : Int) ≤ 9223372036854775807 ∧ isN x.2.2 ∧ x.2.2 * x.1 ^ x.2.1 % 10007 = a ^ k.toNat % 10007) (fun x => x.2.1) (a, k.toNat, 1) ⟨ha, by simp; omega, ⟨by simp, by simp⟩, by simp⟩ (by simp [go_sem]; omega) (by simp [go_sem]) ?_
  rintro ⟨b, j, o⟩ ⟨hb, hj, ho, he⟩
  simp only at hb hj ho he
  have f1 := mul_fits hb hb
  have f2 := mul_fits ho hb
  simp [go_sem]
  refine ⟨fun h => ?_, fun h => ?_⟩ <;> simp at h
  · simp [go_sem, half_cast, bit_cast]
    refine ⟨fun h2 => ?_, fun h2 => ?_⟩ <;> simp at h2 <;> simp [go_sem]
    · refine CallVC.of (l01Mul_c _ _ f2) (by decide) ?_
      simp [go_sem]
      refine CallVC.of (l01Mul_c _ _ f1) (by decide) ?_
      simp [go_sem, half_cast, bit_cast]
      refine ⟨by omega, b * b % 10007, j / 2, o * b % 10007, ⟨isN_mod _, by omega, isN_mod _, ?_⟩, by omega, Off_reset _ _ _ (by simp), rfl, by omega, rfl⟩
      rw [pw_odd, show 2 * (j / 2) + 1 = j by omega, he]
    · refine CallVC.of (l01Mul_c _ _ f1) (by decide) ?_
      simp [go_sem, half_cast, bit_cast]
      refine ⟨by omega, b * b % 10007, j / 2, o, ⟨isN_mod _, by omega, ho, ?_⟩, by omega, Off_reset _ _ _ (by simp), rfl, by omega, rfl⟩
      rw [pw_even, show 2 * (j / 2) = j by omega, he]
  · simp [go_sem]
    subst h
    unfold pw
    rw [← he]
    simp
    rw [Int.emod_eq_of_lt ho.1 ho.2]
theorem inv_c (a : Int) (ha : isN a) : Con Tryz.prog 51 [.int a] (.int (pw a 10005)) := by
  refine con_of_vc Tryz.mixed ⟨3, [], [], []⟩ Tryz.func51 (by decide) rfl (by simp) (by decide) rfl ?_
  rw [Tryz.ntmps51]
  simp [go_sem]
  refine CallVC.of (pow_c _ _ ha (by omega) (by omega)) (by decide) ?_
  simp [go_sem]
theorem l01Inv_c (a : Int) (ha : isN a) : Con Tryz.prog 93 [.int a] (.int (pw a 10005)) := by
  refine con_of_vc Tryz.mixed ⟨3, [], [], []⟩ Tryz.func93 (by decide) rfl (by simp) (by decide) rfl ?_
  rw [Tryz.ntmps93]
  simp [go_sem]
  refine CallVC.of (l01Pow_c _ _ ha (by omega) (by omega)) (by decide) ?_
  simp [go_sem]
end Go.Proofs.YtbeekabpflaihaaGreat


namespace Go.Proofs.YtbeekabpflaihaaGreat
open Go.Abs
set_option linter.unusedSectionVars false
set_option linter.unusedVariables false
set_option linter.unusedSimpArgs false
set_option maxHeartbeats 1000000
end Go.Proofs.YtbeekabpflaihaaGreat


namespace Go.Proofs.YtbeekabpflaihaaGreat
open Go.Abs
set_option linter.unusedSectionVars false
set_option linter.unusedVariables false
set_option linter.unusedSimpArgs false
set_option maxHeartbeats 1000000
def dotI : List Int → List Int → Int
  | x :: xs, y :: ys => x * y + dotI xs ys
  | _, _ => 0
theorem dotI_take : ∀ {xs ys : List Int} {k : Nat}, k < xs.length → k < ys.length → dotI (xs.take (k + 1)) (ys.take (k + 1)) = dotI (xs.take k) (ys.take k) + xs[k]?.getD 0 * ys[k]?.getD 0
  | x :: xs, y :: ys, 0, _, _ => by simp [dotI]
  | x :: xs, y :: ys, k + 1, h, h2 => by
    have := dotI_take (xs := xs) (ys := ys) (k := k) (by simpa using h) (by simpa using h2)
    simp only [List.take_succ_cons, dotI, this, List.getElem?_cons_succ]; omega
theorem dotI_short : ∀ {xs ys : List Int}, xs.length ≤ ys.length → dotI xs (ys.take xs.length) = dotI xs ys
  | [], ys, _ => by simp [dotI]
  | x :: xs, [], h => by simp at h
  | x :: xs, y :: ys, h => by simp [dotI, dotI_short (xs := xs) (ys := ys) (by simpa using h)]
def Ns (xs : List Int) : Prop := ∀ x ∈ xs, isN x
theorem Ns.get {xs : List Int} (h : Ns xs) (k : Nat) : isN (xs[k]?.getD 0) := by
  rcases Nat.lt_or_ge k xs.length with hk | hk
  · simp [hk]; exact h _ (List.getElem_mem hk)
  · simp [hk]; exact ⟨by omega, by omega⟩
theorem Ns.take {xs : List Int} (h : Ns xs) (k : Nat) : Ns (xs.take k) := fun x hx => h x (List.mem_of_mem_take hx)
theorem Ns.nil : Ns [] := by intro x hx; simp at hx
theorem dotI_bound : ∀ {xs ys : List Int}, Ns xs → Ns ys → 0 ≤ dotI xs ys ∧ dotI xs ys ≤ xs.length * 100120036
  | [], ys, _, _ => by simp [dotI]
  | x :: xs, [], _, _ => by simp [dotI]; omega
  | x :: xs, y :: ys, hx, hy => by
    have h1 := dotI_bound (xs := xs) (ys := ys) (fun z hz => hx z (by simp [hz])) (fun z hz => hy z (by simp [hz]))
    have h2 := mul_bound (hx x (by simp)) (hy y (by simp))
    simp only [dotI, List.length_cons]; omega
theorem dot_c (xs ys : List Int) (hl : xs.length ≤ ys.length) (h64 : xs.length ≤ 64) (hx : Ns xs) (hy : Ns ys) : Con Tryz.prog 78 [.sl xs.length (avs xs), .sl ys.length (avs ys)] (.int (dotI xs ys % 10007)) := by
  refine con_of_vc Tryz.mixed ⟨8, [], [], []⟩ Tryz.func78 (by decide) rfl (by simp) (by decide) (by simp [freshOK, freshL, go_sem]) ?_
  rw [Tryz.ntmps78]
  simp [go_sem]
  refine loop_inv (5 :: 6 :: 7 :: List.range' 10 14) (fun k : Nat => [(5, .int (dotI (xs.take k) (ys.take k))), (10, .int k)]) (fun k => k ≤ xs.length) (fun k => xs.length - k) 0 (by simp) (by simp [go_sem, dotI]) (by simp [go_sem]) ?_
  intro k hk
  have b1 := dotI_bound (hx.take k) (hy.take k)
  have b2 := mul_bound (hx.get k) (hy.get k)
  simp only [List.length_take] at b1
  simp [go_sem]
  refine ⟨fun h => ?_, fun h => ?_⟩ <;> simp at h
  · have h2 : k < ys.length := by omega
    simp [go_sem, avs_drop h, avs_drop h2]
    refine ⟨⟨h, by rintro rfl; simp at h⟩, ⟨h2, by rintro rfl; simp at h2⟩, by omega, by omega, by omega, k + 1, by omega, by omega, Off_reset _ _ _ (by simp), (dotI_take h h2).symm, by omega⟩
  · have e : k = xs.length := by omega
    subst e
    have := dotI_bound hx hy
    rw [List.take_length, dotI_short hl] at *
    simp [go_sem]
    refine CallVC.of (num_c _ (by omega) (by omega)) (by decide) ?_
    simp [go_sem]
def tim (A : List (List Int)) (v : List Int) : List Int := A.map fun r => dotI r v % 10007
@[simp] theorem tim_len (A : List (List Int)) (v : List Int) : (tim A v).length = A.length := by simp [tim]
theorem tim_take {A : List (List Int)} {v : List Int} {k : Nat} (h : k < A.length) : tim (A.take (k + 1)) v = tim (A.take k) v ++ [dotI (A[k]?.getD []) v % 10007] := by
  rw [tim, tim, List.take_add_one, List.getElem?_eq_getElem h]
  simp only [List.map_append, List.map_cons, List.map_nil, Option.toList_some, Option.getD_some]
theorem tim_N (A : List (List Int)) (v : List Int) : Ns (tim A v) := by
  intro x hx
  simp [tim] at hx
  obtain ⟨r, _, rfl⟩ := hx
  exact isN_mod _
def Mat (n : Nat) (A : List (List Int)) : Prop := ∀ r ∈ A, r.length = n ∧ Ns r
theorem Mat.get {n : Nat} {A : List (List Int)} (h : Mat n A) {k : Nat} (hk : k < A.length) : (A[k]?.getD []).length = n ∧ Ns (A[k]?.getD []) := by
  rw [List.getElem?_eq_getElem hk]; exact h _ (List.getElem_mem hk)
end Go.Proofs.YtbeekabpflaihaaGreat


namespace Go.Proofs.YtbeekabpflaihaaGreat
open Go.Abs
set_option linter.unusedSectionVars false
set_option linter.unusedVariables false
set_option linter.unusedSimpArgs false
set_option maxHeartbeats 1000000
abbrev u64 (n : Int) : AV := .val (.int .u64 n)
end Go.Proofs.YtbeekabpflaihaaGreat


namespace Go.Proofs.YtbeekabpflaihaaGreat
open Go.Abs
set_option linter.unusedSectionVars false
set_option linter.unusedVariables false
set_option linter.unusedSimpArgs false
set_option maxHeartbeats 1000000
theorem specIsNumber_c (a : Int) : Con Tryz.prog 127 [.int a] (.bool (decide (0 ≤ a ∧ a ≤ 10006))) := by
  refine con_of_vc Tryz.mixed ⟨3, [], [], []⟩ Tryz.func127 (by decide) rfl (by simp) (by decide) (by simp [freshOK, freshL, go_sem]) ?_
  rw [Tryz.ntmps127]
  simp [go_sem]
  refine CallVC.of (l01In_c _ _ _) (by decide) ?_
  simp [go_sem]
theorem numsB_bad {xs : List Int} {i : Nat} (h : i < xs.length) (hb : ¬ (0 ≤ xs[i]?.getD 0 ∧ xs[i]?.getD 0 ≤ 10006)) : numsB xs = false := by
  rw [List.getElem?_eq_getElem h] at hb
  simp only [Option.getD_some] at hb
  unfold numsB
  rw [List.all_eq_false]
  exact ⟨xs[i], List.getElem_mem h, by simpa using hb⟩
theorem numsB_ok {xs : List Int} (h : ∀ x ∈ xs, 0 ≤ x ∧ x ≤ 10006) : numsB xs = true := by
  unfold numsB
  rw [List.all_eq_true]
  intro x hx
  simpa using h x hx
theorem numsB_N {xs : List Int} : numsB xs = true ↔ Ns xs := by
  unfold numsB Ns isN
  rw [List.all_eq_true]
  constructor
  · intro h x hx
    have := h x hx
    simp at this; omega
  · intro h x hx
    have := h x hx
    simp; omega
theorem take_all {α : Type} {p : α → Prop} {xs : List α} {i : Nat} (h : i < xs.length) (h1 : ∀ x ∈ xs.take i, p x) (h2 : p xs[i]) : ∀ x ∈ xs.take (i + 1), p x := by
  intro x hx
  rw [List.take_add_one, List.getElem?_eq_getElem h, Option.toList_some, List.mem_append, List.mem_singleton] at hx
  rcases hx with hx | rfl
  · exact h1 x hx
  · exact h2
theorem l01Numbers_c (xs : List Int) (hl : xs.length ≤ 9223372036854775807) : Con Tryz.prog 97 [.sl xs.length (avs xs)] (.bool (numsB xs)) := by
  refine con_of_vc Tryz.mixed ⟨4, [], [], []⟩ Tryz.func97 (by decide) rfl (by simp) (by decide) (by simp [freshOK, freshL, go_sem]) ?_
  rw [Tryz.ntmps97]
  simp [go_sem]
  refine loop_inv (List.range' 2 14) (fun i : Nat => [(3, .int i)]) (fun i => i ≤ xs.length ∧ ∀ x ∈ xs.take i, 0 ≤ x ∧ x ≤ 10006) (fun i => xs.length - i) 0 (by simp) (by simp [go_sem]) (by simp [go_sem]) ?_
  rintro i ⟨hi, hp⟩
  simp [go_sem]
  refine ⟨fun h => ?_, fun h => ?_⟩ <;> simp at h
  · simp [go_sem, avs_drop h]
    refine ⟨⟨h, by rintro rfl; simp at h⟩, ?_⟩
    refine CallVC.of (specIsNumber_c _) (by decide) ?_
    by_cases hb : 0 ≤ xs[i]?.getD 0 ∧ xs[i]?.getD 0 ≤ 10006
    · simp [go_sem, hb]
      refine ⟨by omega, i + 1, ⟨by omega, ?_⟩, by omega, Off_reset _ _ _ (by simp), by omega⟩
      rw [List.getElem?_eq_getElem h, Option.getD_some] at hb
      exact take_all h hp hb
    · have e : decide (0 ≤ xs[i]?.getD 0 ∧ xs[i]?.getD 0 ≤ 10006) = false := by simpa using hb
      rw [e]
      simp [go_sem]
      exact numsB_bad h hb
  · simp [go_sem]
    have e : i = xs.length := by omega
    subst e
    rw [List.take_length] at hp
    exact numsB_ok hp
theorem l09Is_c (A : List (List Int)) (B : List Int) (hA : A.length ≤ 9223372036854775807) (hB : B.length ≤ 9223372036854775807) (hr : ∀ r ∈ A, r.length ≤ 9223372036854775807) :
    Con Tryz.prog 59 [.agg [.sl A.length (mat A), .sl B.length (avs B)]] (.bool (tabB A B)) := by
  have bad : ¬ (1 ≤ B.length ∧ B.length ≤ 8 ∧ A.length = B.length) → tabB A B = false := fun h => by
    unfold tabB
    rw [decide_eq_false h]; rfl
  refine con_of_vc Tryz.mixed ⟨5, [], [], []⟩ Tryz.func59 (by decide) rfl (by simp) (by decide) (by simp [freshOK, freshL, go_sem]) ?_
  rw [Tryz.ntmps59]
  simp [go_sem]
  by_cases h1 : 1 ≤ B.length
  · by_cases h2 : B.length ≤ 8
    · by_cases h3 : A.length = B.length
      · have i1 : ¬ (B.length : Int) < 1 := by omega
        have i2 : ¬ 8 < (B.length : Int) := by omega
        have i3 : (A.length : Int) = B.length := by omega
        simp [go_sem, i1, i2, i3]
        refine CallVC.of (l01Numbers_c B hB) (by decide) ?_
        cases hB2 : numsB B with
        | false =>
          simp [go_sem]
          unfold tabB; rw [hB2]; simp
        | true =>
          simp [go_sem]
          refine loop_inv (2 :: 4 :: List.range' 27 22) (fun i : Nat => [(4, .int i)]) (fun i => i ≤ B.length ∧ ∀ r ∈ A.take i, r.length = B.length ∧ numsB r = true) (fun i => B.length - i) 0 (by simp) (by simp [go_sem]) (by simp [go_sem]) ?_
          rintro i ⟨hi, hp⟩
          have fine : tabB A B = A.all (fun r => decide (r.length = B.length) && numsB r) := by
            unfold tabB; rw [hB2, decide_eq_true ⟨h1, h2, h3⟩]; simp
          simp [go_sem]
          refine ⟨fun h => ?_, fun h => ?_⟩ <;> simp at h
          · have hA2 : i < A.length := by omega
            have wrong : ¬ ((A[i]?.getD []).length = B.length ∧ numsB (A[i]?.getD []) = true) → tabB A B = false := fun hb => by
              rw [List.getElem?_eq_getElem hA2, Option.getD_some] at hb
              rw [fine, List.all_eq_false]
              exact ⟨A[i], List.getElem_mem hA2, by simpa using hb⟩
            simp [go_sem, mat_drop hA2]
            refine ⟨⟨hA2, by rintro rfl; simp at hA2⟩, ?_⟩
            by_cases g1 : (A[i]?.getD []).length = B.length
            · have g1' : ((A[i]?.getD []).length : Int) = B.length := by omega
              simp [go_sem, g1', mat_drop hA2]
              refine ⟨⟨hA2, by rintro rfl; simp at hA2⟩, ?_⟩
              refine CallVC.of (l01Numbers_c _ (by omega)) (by decide) ?_
              cases g2 : numsB (A[i]?.getD []) with
              | false =>
                simp [go_sem]
                exact wrong (by rw [g2]; simp)
              | true =>
                simp [go_sem]
                refine ⟨by omega, i + 1, ⟨by omega, ?_⟩, by omega, Off_reset _ _ _ (by simp), by omega⟩
                rw [List.getElem?_eq_getElem hA2, Option.getD_some] at g1 g2
                exact take_all hA2 hp ⟨g1, g2⟩
            · have g1' : ¬ ((A[i]?.getD []).length : Int) = B.length := by omega
              simp [go_sem, g1']
              exact wrong (fun h => g1 h.1)
          · simp [go_sem]
            have e : i = A.length := by omega
            subst e
            rw [List.take_length] at hp
            rw [fine, List.all_eq_true]
            intro r hr
            simpa using hp r hr
      · have i1 : ¬ (B.length : Int) < 1 := by omega
        have i2 : ¬ 8 < (B.length : Int) := by omega
        have i3 : ¬ (A.length : Int) = B.length := by omega
        simp [go_sem, i1, i2, i3, bad (fun h => h3 h.2.2)]
    · have i1 : ¬ (B.length : Int) < 1 := by omega
      have i2 : 8 < (B.length : Int) := by omega
      simp [go_sem, i1, i2, bad (fun h => h2 h.2.1)]
  · have i1 : (B.length : Int) < 1 := by omega
    simp [go_sem, i1, bad (fun h => h1 h.1)]
structure Tab (A : List (List Int)) (B : List Int) : Prop where
  pos : 1 ≤ B.length
  le : B.length ≤ 8
  len : A.length = B.length
  b : Ns B
  a : Mat B.length A
theorem tabB_iff {A : List (List Int)} {B : List Int} : tabB A B = true ↔ Tab A B := by
  unfold tabB
  simp only [Bool.and_eq_true, decide_eq_true_eq, List.all_eq_true, numsB_N]
  constructor
  · rintro ⟨⟨⟨h1, h2, h3⟩, h4⟩, h5⟩
    exact ⟨h1, h2, h3, h4, fun r hr => h5 r hr⟩
  · rintro ⟨h1, h2, h3, h4, h5⟩
    exact ⟨⟨⟨h1, h2, h3⟩, h4⟩, fun r hr => h5 r hr⟩
end Go.Proofs.YtbeekabpflaihaaGreat


namespace Go.Proofs.YtbeekabpflaihaaGreat
open Go.Abs
set_option linter.unusedSectionVars false
set_option linter.unusedVariables false
set_option linter.unusedSimpArgs false
set_option maxHeartbeats 1000000
def tb (f : Nat → Int) (k : Nat) : List Int := (List.range k).map f
@[simp] theorem tb_len (f : Nat → Int) (k : Nat) : (tb f k).length = k := by simp [tb]
@[simp] theorem tb_zero (f : Nat → Int) : tb f 0 = [] := rfl
theorem tb_succ (f : Nat → Int) (k : Nat) : tb f (k + 1) = tb f k ++ [f k] := by simp [tb, List.range_succ]
theorem tb_get (f : Nat → Int) {k i : Nat} (h : i < k) : (tb f k)[i]?.getD 0 = f i := by simp [tb, h]
theorem tb_N {f : Nat → Int} {k : Nat} (h : ∀ i, i < k → isN (f i)) : Ns (tb f k) := by
  intro x hx
  simp [tb] at hx
  obtain ⟨i, hi, rfl⟩ := hx
  exact h i hi
theorem avs_at {xs : List Int} {k : Nat} (h : k < xs.length) : (avs xs)[k]? = some (AV.val (.int .i64 (xs[k]?.getD 0))) := by simp [avs, h]
theorem l02Times_c (a : List Int) (k : Int) (ha : Ns a) (hk : isN k) (hl : a.length ≤ 1048576) :
    Con Tryz.prog 94 [.sl a.length (avs a), .int k] (.own 2 a.length (avs (tb (fun i => a[i]?.getD 0 * k % 10007) a.length))) := by
  refine con_of_vc Tryz.mixed ⟨7, [], [], []⟩ Tryz.func94 (by decide) rfl (by simp) (by decide) (by simp [freshOK, freshL, go_sem]) ?_
  rw [Tryz.ntmps94]
  simp [go_sem]
  refine loop_inv (5 :: 6 :: List.range' 8 15) (fun i : Nat => [(5, .own 2 i (avs (tb (fun i => a[i]?.getD 0 * k % 10007) i))), (6, .int i)]) (fun i => i ≤ a.length) (fun i => a.length - i) 0 (by simp) (by simp [go_sem]) (by simp [go_sem]) ?_
  intro i hi
  simp [go_sem]
  refine ⟨fun h => ?_, fun h => ?_⟩ <;> simp at h
  · simp [go_sem, avs_drop h]
    refine ⟨⟨h, by rintro rfl; simp at h⟩, ?_⟩
    refine CallVC.of (l01Mul_c _ _ (mul_fits (ha.get i) hk)) (by decide) ?_
    simp [go_sem]
    refine ⟨⟨by omega, by omega⟩, by omega, i + 1, by omega, by omega, Off_reset _ _ _ (by simp), ?_, by omega⟩
    simp [tb_succ, avs_snoc]
  · have e : i = a.length := by omega
    subst e
    simp [go_sem]
theorem l02Add_c (a b : List Int) (ha : Ns a) (hb : Ns b) (hl : a.length ≤ 1048576) (hab : a.length ≤ b.length) :
    Con Tryz.prog 105 [.sl a.length (avs a), .sl b.length (avs b)] (.own 2 a.length (avs (tb (fun i => (a[i]?.getD 0 + b[i]?.getD 0) % 10007) a.length))) := by
  refine con_of_vc Tryz.mixed ⟨7, [], [], []⟩ Tryz.func105 (by decide) rfl (by simp) (by decide) (by simp [freshOK, freshL, go_sem]) ?_
  rw [Tryz.ntmps105]
  simp [go_sem]
  refine loop_inv (5 :: 6 :: List.range' 8 18) (fun i : Nat => [(5, .own 2 i (avs (tb (fun i => (a[i]?.getD 0 + b[i]?.getD 0) % 10007) i))), (6, .int i)]) (fun i => i ≤ a.length) (fun i => a.length - i) 0 (by simp) (by simp [go_sem]) (by simp [go_sem]) ?_
  intro i hi
  simp [go_sem]
  refine ⟨fun h => ?_, fun h => ?_⟩ <;> simp at h
  · have h2 : i < b.length := by omega
    simp [go_sem, avs_drop h, avs_drop h2]
    refine ⟨by kernel_rfl, ⟨h, by rintro rfl; simp at h⟩, ⟨h2, by rintro rfl; simp at h2⟩, ?_⟩
    refine CallD.of (l01Add_c _ _ (add_fits (ha.get i) (hb.get i))) (by simp [roots, rootsL]) (by decide) ?_
    simp [go_sem]
    refine ⟨by omega, ?_⟩
    refine ⟨by kernel_rfl, ?_⟩
    simp [go_sem]
    refine ⟨by omega, i + 1, by omega, by omega, Off_reset _ _ _ (by simp), ?_, by omega⟩
    simp [tb_succ, avs_snoc]
  · have e : i = a.length := by omega
    subst e
    simp [go_sem]
def cv (a b : List Int) (n : Nat) : Nat → Int
  | 0 => 0
  | m + 1 => cv a b n m + a[m]?.getD 0 * b[n - m]?.getD 0
def mulS (a b : List Int) : List Int := tb (fun n => cv a b n (n + 1) % 10007) a.length
@[simp] theorem mulS_len (a b : List Int) : (mulS a b).length = a.length := by simp [mulS]
theorem mulS_N (a b : List Int) : Ns (mulS a b) := tb_N fun i _ => isN_mod _
def es (b o : List Int) (n : Nat) : Nat → Int
  | 0 => 0
  | m + 1 => es b o n m + (m + 1) * (b[m + 1]?.getD 0 * o[n - (m + 1)]?.getD 0 % 10007)
end Go.Proofs.YtbeekabpflaihaaGreat


namespace Go.Proofs.YtbeekabpflaihaaGreat
open Go.Abs
set_option linter.unusedSectionVars false
set_option linter.unusedVariables false
set_option linter.unusedSimpArgs false
set_option maxHeartbeats 1000000
def bys (c : List Int) : List AV := c.map fun x => .val (.int .u8 x)
@[simp] theorem bys_len (c : List Int) : (bys c).length = c.length := by simp [bys]
theorem bys_drop {c : List Int} {k : Nat} (h : k < c.length) : (bys c).drop k = .val (.int .u8 (c[k]?.getD 0)) :: bys (c.drop (k + 1)) := by
  rw [bys, ← List.map_drop, List.drop_eq_getElem_cons h, List.map_cons]; simp [h, bys]
def Byt (c : List Int) : Prop := c.length ≤ 4096 ∧ ∀ x ∈ c, 0 ≤ x ∧ x ≤ 255
theorem Byt.get {c : List Int} (h : Byt c) (k : Nat) : 0 ≤ c[k]?.getD 0 ∧ c[k]?.getD 0 ≤ 255 := by
  rcases Nat.lt_or_ge k c.length with hk | hk
  · simp [hk]; exact h.2 _ (List.getElem_mem hk)
  · simp [hk]
abbrev Src := Nat × Int
def srcA (c : List Int) (σ : Src) : AV := .box 141 [.sl c.length (bys c), .int σ.1, .val (.int .u64 σ.2)]
theorem srcA_eq (c : List Int) (σ : Src) : srcA c σ = .box 141 [.sl c.length (bys c), .int σ.1, .val (.int .u64 σ.2)] := rfl
def dicA (c : List Int) (σ : Src) : AV := .box 91 [.sl c.length (bys c), .int σ.1, .val (.int .u64 σ.2)]
def nxH (h : Int) : Int := IntKind.u64.wrap (IntKind.u64.wrap (h * 6364136223846793005) + 1442695040888963407)
def nxX (h : Int) : Int := andI IntKind.u64 (shrI IntKind.u64 (nxH h) 33) 16777215
def byV (c : List Int) (k : Nat) : Int := if k < c.length then c[k]?.getD 0 else 0
def nx1 (c : List Int) (σ : Src) (n : Int) : Int := if n < 1 then 0 else (nxX σ.2 + byV c σ.1).tmod n
def nx2 (c : List Int) (σ : Src) (n : Int) : Src := if n < 1 then σ else (if σ.1 < c.length then σ.1 + 1 else σ.1, nxH σ.2)
def SOk (σ : Src) : Prop := σ.1 ≤ 4096
theorem nx2_ok {c : List Int} (hc : Byt c) {σ : Src} (h : SOk σ) (n : Int) : SOk (nx2 c σ n) := by
  unfold SOk nx2 at *
  have := hc.1
  split
  · exact h
  · simp only; split <;> omega
theorem nxX_b (h : Int) : 0 ≤ nxX h ∧ nxX h ≤ 16777215 := by
  unfold nxX andI
  generalize shrI IntKind.u64 (nxH h) 33 = y
  have h1 : (BitVec.ofInt IntKind.u64.bits y &&& BitVec.ofInt IntKind.u64.bits 16777215).toNat ≤ 16777215 := by
    rw [BitVec.toNat_and]
    exact Nat.le_trans Nat.and_le_right (by decide)
  generalize (BitVec.ofInt IntKind.u64.bits y &&& BitVec.ofInt IntKind.u64.bits 16777215).toNat = m at *
  simp [IntKind.wrap, IntKind.signed, IntKind.bits]
  omega
theorem byV_b {c : List Int} (hc : Byt c) (k : Nat) : 0 ≤ byV c k ∧ byV c k ≤ 255 := by
  unfold byV
  split
  · exact hc.get k
  · omega
theorem nx1_b {c : List Int} (hc : Byt c) (σ : Src) {n : Int} (hn : 1 ≤ n) : 0 ≤ nx1 c σ n ∧ nx1 c σ n < n := by
  have h1 := nxX_b σ.2
  have h2 := byV_b hc σ.1
  unfold nx1
  rw [if_neg (by omega), Int.tmod_eq_emod_of_nonneg (by omega)]
  exact ⟨Int.emod_nonneg _ (by omega), Int.emod_lt_of_pos _ (by omega)⟩
set_option maxRecDepth 100000 in
theorem l01Next_c (c : List Int) (σ : Src) (n : Int) (hc : Byt c) (hs : SOk σ) : GCon Tryz.prog 60 [srcA c σ, .int n] (.int (nx1 c σ n)) [srcA c (nx2 c σ n), .any] := by
  have hx := nxX_b σ.2
  have hy := byV_b hc σ.1
  have hcl := hc.1
  unfold SOk at hs
  unfold nx1 nx2
  by_cases h0 : n < 1
  · rw [if_pos h0, if_pos h0]
    unfold srcA
    refine gcon_of_vc Tryz.mixed ⟨6, [], [], []⟩ [4] [0] Tryz.func60 (by decide) rfl rfl (by simp) (by simp) (by decide) ?_
    rw [Tryz.ntmps60]
    simp [go_sem]
    simp [go_sem, h0]
  · rw [if_neg h0, if_neg h0]
    unfold srcA
    have e1 : nxH σ.2 = IntKind.u64.wrap (IntKind.u64.wrap (σ.2 * 6364136223846793005) + 1442695040888963407) := rfl
    have e2 : nxX σ.2 = andI IntKind.u64 (shrI IntKind.u64 (nxH σ.2) 33) 16777215 := rfl
    generalize nxX σ.2 = x at *
    generalize nxH σ.2 = h' at *
    have n0 : ¬ n = 0 := by omega
    by_cases hk : σ.1 < c.length
    · have hb : byV c σ.1 = c[σ.1]?.getD 0 := by unfold byV; rw [if_pos hk]
      have hne : ¬ c = [] := by rintro rfl; simp at hk
      rw [if_pos hk]
      rw [hb] at hy ⊢
      refine gcon_of_vc Tryz.mixed ⟨6, [], [], []⟩ [4] [0] Tryz.func60 (by decide) rfl rfl (by simp) (by simp) (by decide) ?_
      rw [Tryz.ntmps60]
      simp [go_sem]
      simp [go_sem, h0, ← e1, ← e2]
      refine ⟨⟨by omega, by omega⟩, by kernel_rfl, ?_⟩
      refine ⟨by kernel_rfl, ?_⟩
      simp [go_sem]
      have hD := bys_drop hk
      generalize c[σ.1]?.getD 0 = b at *
      simp [go_sem, hk, hD]
      refine ⟨by kernel_rfl, by intro e; exact hne (by simpa [bys] using e), ⟨by omega, by omega⟩, ⟨by omega, by omega⟩, ?_⟩
      refine ⟨by kernel_rfl, ?_⟩
      simp [go_sem]
      exact ⟨⟨by omega, by omega⟩, n0⟩
    · have hb : byV c σ.1 = 0 := by unfold byV; rw [if_neg hk]
      rw [if_neg hk]
      rw [hb] at hy ⊢
      refine gcon_of_vc Tryz.mixed ⟨6, [], [], []⟩ [4] [0] Tryz.func60 (by decide) rfl rfl (by simp) (by simp) (by decide) ?_
      rw [Tryz.ntmps60]
      simp [go_sem]
      simp [go_sem, h0, ← e1, ← e2]
      refine ⟨⟨by omega, by omega⟩, by kernel_rfl, ?_⟩
      refine ⟨by kernel_rfl, ?_⟩
      simp [go_sem]
      simp [go_sem, hk]
      exact n0
set_option maxRecDepth 100000 in
theorem below_c (c : List Int) (σ : Src) (n : Int) (hc : Byt c) (hs : SOk σ) : GCon Tryz.prog 35 [dicA c σ, .int n] (.int (nx1 c σ n)) [dicA c (nx2 c σ n), .any] := by
  have hx := nxX_b σ.2
  have hy := byV_b hc σ.1
  have hcl := hc.1
  unfold SOk at hs
  unfold nx1 nx2
  by_cases h0 : n < 1
  · rw [if_pos h0, if_pos h0]
    unfold dicA
    refine gcon_of_vc Tryz.mixed ⟨6, [], [], []⟩ [4] [0] Tryz.func35 (by decide) rfl rfl (by simp) (by simp) (by decide) ?_
    rw [Tryz.ntmps35]
    simp [go_sem]
    simp [go_sem, h0]
  · rw [if_neg h0, if_neg h0]
    unfold dicA
    have e1 : nxH σ.2 = IntKind.u64.wrap (IntKind.u64.wrap (σ.2 * 6364136223846793005) + 1442695040888963407) := rfl
    have e2 : nxX σ.2 = andI IntKind.u64 (shrI IntKind.u64 (nxH σ.2) 33) 16777215 := rfl
    generalize nxX σ.2 = x at *
    generalize nxH σ.2 = h' at *
    have n0 : ¬ n = 0 := by omega
    by_cases hk : σ.1 < c.length
    · have hb : byV c σ.1 = c[σ.1]?.getD 0 := by unfold byV; rw [if_pos hk]
      have hne : ¬ c = [] := by rintro rfl; simp at hk
      rw [if_pos hk]
      rw [hb] at hy ⊢
      refine gcon_of_vc Tryz.mixed ⟨6, [], [], []⟩ [4] [0] Tryz.func35 (by decide) rfl rfl (by simp) (by simp) (by decide) ?_
      rw [Tryz.ntmps35]
      simp [go_sem]
      simp [go_sem, h0, ← e1, ← e2]
      refine ⟨⟨by omega, by omega⟩, by kernel_rfl, ?_⟩
      refine ⟨by kernel_rfl, ?_⟩
      simp [go_sem]
      have hD := bys_drop hk
      generalize c[σ.1]?.getD 0 = b at *
      simp [go_sem, hk, hD]
      refine ⟨by kernel_rfl, by intro e; exact hne (by simpa [bys] using e), ⟨by omega, by omega⟩, ⟨by omega, by omega⟩, ?_⟩
      refine ⟨by kernel_rfl, ?_⟩
      simp [go_sem]
      exact ⟨⟨by omega, by omega⟩, n0⟩
    · have hb : byV c σ.1 = 0 := by unfold byV; rw [if_neg hk]
      rw [if_neg hk]
      rw [hb] at hy ⊢
      refine gcon_of_vc Tryz.mixed ⟨6, [], [], []⟩ [4] [0] Tryz.func35 (by decide) rfl rfl (by simp) (by simp) (by decide) ?_
      rw [Tryz.ntmps35]
      simp [go_sem]
      simp [go_sem, h0, ← e1, ← e2]
      refine ⟨⟨by omega, by omega⟩, by kernel_rfl, ?_⟩
      refine ⟨by kernel_rfl, ?_⟩
      simp [go_sem]
      simp [go_sem, hk]
      exact n0
theorem getI {xs : List Int} {v : Int} (h0 : 0 ≤ v) (h1 : v < xs.length) : ∃ k : Nat, v = k ∧ k < xs.length ∧ v.toNat = k := ⟨v.toNat, by omega, by omega, rfl⟩
def pk (c : List Int) (σ : Src) (xs : List Int) : Int := xs[(nx1 c σ xs.length).toNat]?.getD 0
theorem pk_mem (c : List Int) (hc : Byt c) (σ : Src) {xs : List Int} (hx : 0 < xs.length) : pk c σ xs ∈ xs := by
  have h := nx1_b hc σ (n := xs.length) (by omega)
  unfold pk
  have hk : (nx1 c σ xs.length).toNat < xs.length := by omega
  simp [hk]
set_option maxRecDepth 100000 in
theorem l01Pick_c (c : List Int) (σ : Src) (xs : List Int) (hc : Byt c) (hs : SOk σ) (hx : 0 < xs.length) (hxl : xs.length ≤ 1000) :
    GCon Tryz.prog 124 [srcA c σ, .own 2 xs.length (avs xs)] (.int (pk c σ xs)) [srcA c (nx2 c σ xs.length), .any] := by
  have cN := l01Next_c c σ xs.length hc hs
  have hb := nx1_b hc σ (n := xs.length) (by omega)
  unfold pk
  obtain ⟨k, hk, hkl, hkt⟩ := getI hb.1 hb.2
  rw [hkt]
  rw [hk] at cN
  unfold srcA at *
  refine gcon_of_vc Tryz.mixed ⟨5, [], [1000000 + 60], []⟩ [4] [0] Tryz.func124 (by decide) rfl rfl (by simp) (by simp) (by decide) ?_
  rw [Tryz.ntmps124]
  simp [go_sem]
  refine ⟨_, _, cN, ?_⟩
  simp [go_sem]
  have hA := avs_at hkl
  simp [go_sem, hA]
  exact hkl
theorem l01Frac_c (p q : Int) (hp : fits p) (hq : fits q) : Con Tryz.prog 182 [.int p, .int q] (.int (p % 10007 * pw (q % 10007) 10005 % 10007)) := by
  have hf : fits (p % 10007 * pw (q % 10007) 10005) := mul_fits (isN_mod _) (isN_mod _)
  refine con_of_vc Tryz.mixed ⟨5, [], [], []⟩ Tryz.func182 (by decide) rfl (by simp) (by decide) (by simp [freshOK, freshL, go_sem]) ?_
  rw [Tryz.ntmps182]
  simp [go_sem]
  refine CallVC.of (l01Mod_c p hp.1 hp.2) (by decide) ?_
  simp [go_sem]
  refine CallVC.of (l01Mod_c q hq.1 hq.2) (by decide) ?_
  simp [go_sem]
  refine CallVC.of (l01Inv_c _ (isN_mod q)) (by decide) ?_
  simp [go_sem]
  refine CallVC.of (l01Mul_c _ _ hf) (by decide) ?_
  simp [go_sem]
def nbV (c : List Int) (σ : Src) : Int × Src :=
  if nx1 c σ 5 = 0 then (nx1 c (nx2 c σ 5) 10007, nx2 c (nx2 c σ 5) 10007)
  else if nx1 c σ 5 = 1 then (pk c (nx2 c σ 5) [0, 1, 0, 1, 10006, 2], nx2 c (nx2 c σ 5) 6)
  else ((nx1 c (nx2 c σ 5) 15 - 7) % 10007 * pw ((1 + nx1 c (nx2 c (nx2 c σ 5) 15) 12) % 10007) 10005 % 10007, nx2 c (nx2 c (nx2 c σ 5) 15) 12)
theorem nbV_ok {c : List Int} (hc : Byt c) {σ : Src} (hs : SOk σ) : isN (nbV c σ).1 ∧ SOk (nbV c σ).2 := by
  have s1 := nx2_ok hc hs 5
  unfold nbV
  split
  · exact ⟨nx1_b hc (nx2 c σ 5) (n := 10007) (by omega), nx2_ok hc s1 _⟩
  · split
    · refine ⟨?_, nx2_ok hc s1 _⟩
      have := pk_mem c hc (nx2 c σ 5) (xs := [0, 1, 0, 1, 10006, 2]) (by simp)
      simp at this
      simp only
      constructor <;> omega
    · exact ⟨isN_mod _, nx2_ok hc (nx2_ok hc s1 _) _⟩
set_option maxRecDepth 100000 in
theorem l01Number_c (c : List Int) (σ : Src) (hc : Byt c) (hs : SOk σ) : GCon Tryz.prog 125 [srcA c σ] (.int (nbV c σ).1) [srcA c (nbV c σ).2] := by
  have s1 := nx2_ok hc hs 5
  have s2 := nx2_ok hc s1 15
  have c1 := l01Next_c c σ 5 hc hs
  have c2 := l01Next_c c (nx2 c σ 5) 10007 hc s1
  have c3 := l01Pick_c c (nx2 c σ 5) [0, 1, 0, 1, 10006, 2] hc s1 (by simp) (by simp)
  have c4 := l01Next_c c (nx2 c σ 5) 15 hc s1
  have c5 := l01Next_c c (nx2 c (nx2 c σ 5) 15) 12 hc s2
  have b4 := nx1_b hc (nx2 c σ 5) (n := 15) (by omega)
  have b5 := nx1_b hc (nx2 c (nx2 c σ 5) 15) (n := 12) (by omega)
  have c6 := l01Frac_c (nx1 c (nx2 c σ 5) 15 - 7) (1 + nx1 c (nx2 c (nx2 c σ 5) 15) 12) ⟨by omega, by omega⟩ ⟨by omega, by omega⟩
  unfold nbV
  have e3 : (([0, 1, 0, 1, 10006, 2] : List Int).length : Int) = 6 := rfl
  rw [e3] at c3
  generalize pk c (nx2 c σ 5) [0, 1, 0, 1, 10006, 2] = pv at *
  generalize nx1 c (nx2 c (nx2 c σ 5) 15) 12 = v5 at *
  generalize nx2 c (nx2 c (nx2 c σ 5) 15) 12 = t5 at *
  generalize nx1 c (nx2 c σ 5) 15 = v4 at *
  generalize nx2 c (nx2 c σ 5) 15 = t4 at *
  generalize nx2 c (nx2 c σ 5) 6 = t3 at *
  generalize nx1 c (nx2 c σ 5) 10007 = v2 at *
  generalize nx2 c (nx2 c σ 5) 10007 = t2 at *
  generalize nx1 c σ 5 = v1 at *
  generalize nx2 c σ 5 = t1 at *
  unfold srcA at *
  by_cases h0 : v1 = 0
  · rw [if_pos h0]
    refine gcon_of_vc Tryz.mixed ⟨3, [], [1000000 + 60, 1000000 + 124], []⟩ [2] [0] Tryz.func125 (by decide) rfl rfl (by simp) (by simp) (by decide) ?_
    rw [Tryz.ntmps125]
    simp [go_sem]
    refine ⟨_, _, c1, ?_⟩
    simp [go_sem]
    simp [go_sem, h0]
    refine ⟨_, _, c2, ?_⟩
    simp [go_sem]
  · rw [if_neg h0]
    by_cases h1 : v1 = 1
    · rw [if_pos h1]
      refine gcon_of_vc Tryz.mixed ⟨3, [], [1000000 + 60, 1000000 + 124], []⟩ [2] [0] Tryz.func125 (by decide) rfl rfl (by simp) (by simp) (by decide) ?_
      rw [Tryz.ntmps125]
      simp [go_sem]
      refine ⟨_, _, c1, ?_⟩
      simp [go_sem]
      simp [go_sem, h0, h1]
      refine ⟨_, _, c3, ?_⟩
      simp [go_sem]
    · rw [if_neg h1]
      refine gcon_of_vc Tryz.mixed ⟨3, [], [1000000 + 60, 1000000 + 124], []⟩ [2] [0] Tryz.func125 (by decide) rfl rfl (by simp) (by simp) (by decide) ?_
      rw [Tryz.ntmps125]
      simp [go_sem]
      refine ⟨_, _, c1, ?_⟩
      simp [go_sem]
      simp [go_sem, h0, h1]
      refine ⟨_, _, c4, ?_⟩
      simp [go_sem]
      refine ⟨⟨by omega, by omega⟩, ?_⟩
      refine ⟨_, _, c5, ?_⟩
      simp [go_sem]
      refine ⟨⟨by omega, by omega⟩, ?_⟩
      refine CallVC.of (c6) (by decide) ?_
      simp [go_sem]
theorem mod5_c (n : Int) (h0 : -9223372036854775808 ≤ n) (h1 : n ≤ 9223372036854775807) : Con Tryz.prog 36 [.int n] (.int (n % 10007)) := by
  have e := num_law n
  have b := num_low n
  refine con_of_vc Tryz.mixed ⟨3, [], [], []⟩ Tryz.func36 (by decide) rfl (by simp) (by decide) (by simp [freshOK, freshL, go_sem]) ?_
  rw [Tryz.ntmps36]
  simp [go_sem]
  simp [go_sem, e]
  omega
def n5V (c : List Int) (σ : Src) : Int × Src :=
  if nx1 c σ 2 = 0 then (nx1 c (nx2 c σ 2) 10007, nx2 c (nx2 c σ 2) 10007)
  else ((nx1 c (nx2 c σ 2) 9 - 4) % 10007, nx2 c (nx2 c σ 2) 9)
theorem n5V_ok {c : List Int} (hc : Byt c) {σ : Src} (hs : SOk σ) : isN (n5V c σ).1 ∧ SOk (n5V c σ).2 := by
  have s1 := nx2_ok hc hs 2
  unfold n5V
  split
  · exact ⟨nx1_b hc (nx2 c σ 2) (n := 10007) (by omega), nx2_ok hc s1 _⟩
  · exact ⟨isN_mod _, nx2_ok hc s1 _⟩
set_option maxRecDepth 100000 in
theorem number5_c (c : List Int) (σ : Src) (hc : Byt c) (hs : SOk σ) : GCon Tryz.prog 66 [dicA c σ] (.int (n5V c σ).1) [dicA c (n5V c σ).2] := by
  have s1 := nx2_ok hc hs 2
  have c1 := below_c c σ 2 hc hs
  have c2 := below_c c (nx2 c σ 2) 10007 hc s1
  have c4 := below_c c (nx2 c σ 2) 9 hc s1
  have b4 := nx1_b hc (nx2 c σ 2) (n := 9) (by omega)
  have c6 := mod5_c (nx1 c (nx2 c σ 2) 9 - 4) (by omega) (by omega)
  unfold n5V
  generalize nx1 c (nx2 c σ 2) 9 = v4 at *
  generalize nx2 c (nx2 c σ 2) 9 = t4 at *
  generalize nx1 c (nx2 c σ 2) 10007 = v2 at *
  generalize nx2 c (nx2 c σ 2) 10007 = t2 at *
  generalize nx1 c σ 2 = v1 at *
  generalize nx2 c σ 2 = t1 at *
  unfold dicA at *
  by_cases h0 : v1 = 0
  · rw [if_pos h0]
    refine gcon_of_vc Tryz.mixed ⟨3, [], [1000000 + 35], []⟩ [2] [0] Tryz.func66 (by decide) rfl rfl (by simp) (by simp) (by decide) ?_
    rw [Tryz.ntmps66]
    simp [go_sem]
    refine ⟨_, _, c1, ?_⟩
    simp [go_sem]
    simp [go_sem, h0]
    refine ⟨_, _, c2, ?_⟩
    simp [go_sem]
  · rw [if_neg h0]
    refine gcon_of_vc Tryz.mixed ⟨3, [], [1000000 + 35], []⟩ [2] [0] Tryz.func66 (by decide) rfl rfl (by simp) (by simp) (by decide) ?_
    rw [Tryz.ntmps66]
    simp [go_sem]
    refine ⟨_, _, c1, ?_⟩
    simp [go_sem]
    simp [go_sem, h0]
    refine ⟨_, _, c4, ?_⟩
    simp [go_sem]
    refine ⟨⟨by omega, by omega⟩, ?_⟩
    refine CallVC.of (c6) (by decide) ?_
    simp [go_sem]
def lsV (f : Src → Int × Src) : Nat → Src → List Int × Src
  | 0, σ => ([], σ)
  | n + 1, σ => ((f σ).1 :: (lsV f n (f σ).2).1, (lsV f n (f σ).2).2)
theorem lsV_ok {f : Src → Int × Src} (hf : ∀ σ, SOk σ → isN (f σ).1 ∧ SOk (f σ).2) : ∀ (n : Nat) (σ : Src), SOk σ → (lsV f n σ).1.length = n ∧ Ns (lsV f n σ).1 ∧ SOk (lsV f n σ).2
  | 0, σ, h => ⟨rfl, by simp [lsV, Ns], h⟩
  | n + 1, σ, h => by
    have h1 := hf σ h
    have h2 := lsV_ok hf n _ h1.2
    refine ⟨by simp [lsV, h2.1], fun x hx => ?_, h2.2.2⟩
    rcases List.mem_cons.1 hx with rfl | hx
    · exact h1.1
    · exact h2.2.1 x hx
set_option maxRecDepth 100000 in
theorem l01List_c (c : List Int) (σ : Src) (n : Nat) (hc : Byt c) (hs : SOk σ) (hn : n ≤ 100000) :
    GCon Tryz.prog 151 [srcA c σ, .int n] (.own 2 n (avs (lsV (nbV c) n σ).1)) [srcA c (lsV (nbV c) n σ).2, .any] := by
  unfold srcA
  refine gcon_of_vc Tryz.mixed ⟨6, [], [1000000 + 125], []⟩ [4] [0] Tryz.func151 (by decide) rfl rfl (by simp) (by simp) (by decide) ?_
  rw [Tryz.ntmps151]
  simp [go_sem]
  refine loop_inv (0 :: 1 :: 5 :: List.range' 7 9) (fun x : List Int × Src × Nat => [(0, .box 141 [.sl c.length (bys c), .int x.2.1.1, .val (.int .u64 x.2.1.2)]), (1, .int x.2.2), (5, .own 2 x.1.length (avs x.1))]) (fun x => SOk x.2.1 ∧ x.1.length + x.2.2 = n ∧ x.1 ++ (lsV (nbV c) x.2.2 x.2.1).1 = (lsV (nbV c) n σ).1 ∧ (lsV (nbV c) x.2.2 x.2.1).2 = (lsV (nbV c) n σ).2) (fun x => x.2.2) ([], σ, n) ⟨hs, by simp, rfl, rfl⟩ (by simp [go_sem, avs]) (by simp [go_sem]) ?_
  rintro ⟨acc, τ, k⟩ ⟨h1, h2, h3, h4⟩
  simp only at h1 h2 h3 h4
  simp [go_sem]
  refine ⟨fun h => ?_, fun h => ?_⟩ <;> simp at h
  · obtain ⟨j, rfl⟩ : ∃ j, k = j + 1 := ⟨k - 1, by omega⟩
    have cN := l01Number_c c τ hc h1
    have hok := nbV_ok hc h1
    unfold srcA at cN
    simp only [lsV] at h3 h4
    generalize nbV c τ = r at *
    simp [go_sem]
    refine ⟨_, _, cN, ?_⟩
    simp [go_sem]
    refine ⟨⟨by omega, by omega⟩, by omega, acc ++ [r.1], r.2.1, r.2.2, j, ⟨hok.2, by simp; omega, by simpa using h3, h4⟩, by omega, Off_reset _ _ _ (by simp), ?_⟩
    simp [avs]
  · have e : k = 0 := by omega
    subst e
    simp only [lsV, List.append_nil] at h3 h4
    simp [go_sem]
    rw [← h3, ← h4]
    simp at h2
    simp [h2]
set_option maxRecDepth 100000 in
theorem list5_c (c : List Int) (σ : Src) (n : Nat) (hc : Byt c) (hs : SOk σ) (hn : n ≤ 100000) :
    GCon Tryz.prog 25 [dicA c σ, .int n] (.own 2 n (avs (lsV (n5V c) n σ).1)) [dicA c (lsV (n5V c) n σ).2, .any] := by
  unfold dicA
  refine gcon_of_vc Tryz.mixed ⟨6, [], [1000000 + 66], []⟩ [4] [0] Tryz.func25 (by decide) rfl rfl (by simp) (by simp) (by decide) ?_
  rw [Tryz.ntmps25]
  simp [go_sem]
  refine loop_inv (0 :: 1 :: 5 :: List.range' 7 9) (fun x : List Int × Src × Nat => [(0, .box 91 [.sl c.length (bys c), .int x.2.1.1, .val (.int .u64 x.2.1.2)]), (1, .int x.2.2), (5, .own 2 x.1.length (avs x.1))]) (fun x => SOk x.2.1 ∧ x.1.length + x.2.2 = n ∧ x.1 ++ (lsV (n5V c) x.2.2 x.2.1).1 = (lsV (n5V c) n σ).1 ∧ (lsV (n5V c) x.2.2 x.2.1).2 = (lsV (n5V c) n σ).2) (fun x => x.2.2) ([], σ, n) ⟨hs, by simp, rfl, rfl⟩ (by simp [go_sem, avs]) (by simp [go_sem]) ?_
  rintro ⟨acc, τ, k⟩ ⟨h1, h2, h3, h4⟩
  simp only at h1 h2 h3 h4
  simp [go_sem]
  refine ⟨fun h => ?_, fun h => ?_⟩ <;> simp at h
  · obtain ⟨j, rfl⟩ : ∃ j, k = j + 1 := ⟨k - 1, by omega⟩
    have cN := number5_c c τ hc h1
    have hok := n5V_ok hc h1
    unfold dicA at cN
    simp only [lsV] at h3 h4
    generalize n5V c τ = r at *
    simp [go_sem]
    refine ⟨_, _, cN, ?_⟩
    simp [go_sem]
    refine ⟨⟨by omega, by omega⟩, by omega, acc ++ [r.1], r.2.1, r.2.2, j, ⟨hok.2, by simp; omega, by simpa using h3, h4⟩, by omega, Off_reset _ _ _ (by simp), ?_⟩
    simp [avs]
  · have e : k = 0 := by omega
    subst e
    simp only [lsV, List.append_nil] at h3 h4
    simp [go_sem]
    rw [← h3, ← h4]
    simp at h2
    simp [h2]
set_option maxRecDepth 100000 in
theorem l01From_r (c : List Int) (hc : Byt c) : RCon Tryz.prog 85 [.sl c.length (bys c)] (fun r o => o = [.any] ∧ ∃ h, r = srcA c (0, h)) := by
  have hcl := hc.1
  unfold srcA
  refine rcon_of_vcH Tryz.mixed ⟨5, [], [], []⟩ [] Tryz.func85 (by decide) rfl (by simp) (by simp) (by decide) ?_
  rw [Tryz.ntmps85]
  simp [go_sem]
  refine loop_inv (3 :: 4 :: List.range' 12 25) (fun x : Nat × Int => [(3, .box 141 [.sl c.length (bys c), .int 0, .val (.int .u64 x.2)]), (4, .int x.1)]) (fun x => x.1 ≤ c.length) (fun x => c.length - x.1) (0, IntKind.u64.wrap (5381 + IntKind.u64.wrap c.length)) (by simp) (by simp [go_sem]) (by simp [go_sem]) ?_
  rintro ⟨i, h⟩ hi
  simp only at hi
  by_cases hic : i < c.length
  · have h4 : (i : Int) < 4096 := by omega
    have hne : ¬ c = [] := by rintro rfl; simp at hic
    have hD := bys_drop hic
    have hb := hc.get i
    generalize c[i]?.getD 0 = b at *
    simp [go_sem, hic, h4, hD]
    refine ⟨by kernel_rfl, by intro e; exact hne (by simpa [bys] using e), ?_⟩
    refine ⟨by kernel_rfl, ?_⟩
    simp [go_sem]
    exact ⟨⟨by omega, by omega⟩, i + 1, by omega, by omega, Off_reset _ _ _ (by simp), by omega⟩
  · simp [go_sem, hic]
set_option maxRecDepth 100000 in
theorem roll_r (c : List Int) (sd : Int) (hc : Byt c) : RCon Tryz.prog 24 [.sl c.length (bys c), .val (.int .u64 sd)] (fun r o => o = [.any, .any] ∧ ∃ h, r = dicA c (0, h)) := by
  have hcl := hc.1
  unfold dicA
  refine rcon_of_vcH Tryz.mixed ⟨7, [], [], []⟩ [] Tryz.func24 (by decide) rfl (by simp) (by simp) (by decide) ?_
  rw [Tryz.ntmps24]
  simp [go_sem]
  refine loop_inv (5 :: 6 :: List.range' 16 21) (fun x : Nat × Int => [(5, .box 91 [.sl c.length (bys c), .int 0, .val (.int .u64 x.2)]), (6, .int x.1)]) (fun x => x.1 ≤ c.length) (fun x => c.length - x.1) (0, IntKind.u64.wrap (IntKind.u64.wrap (sd * 8111) + IntKind.u64.wrap c.length)) (by simp) (by simp [go_sem]) (by simp [go_sem]) ?_
  rintro ⟨i, h⟩ hi
  simp only at hi
  by_cases hic : i < c.length
  · have h4 : (i : Int) < 4096 := by omega
    have hne : ¬ c = [] := by rintro rfl; simp at hic
    have hD := bys_drop hic
    have hb := hc.get i
    generalize c[i]?.getD 0 = b at *
    simp [go_sem, hic, hD]
    refine ⟨by kernel_rfl, by intro e; exact hne (by simpa [bys] using e), ?_⟩
    refine ⟨by kernel_rfl, ?_⟩
    simp [go_sem]
    exact ⟨⟨by omega, by omega⟩, i + 1, by omega, by omega, Off_reset _ _ _ (by simp), by omega⟩
  · simp [go_sem, hic]
set_option maxRecDepth 100000 in
theorem likeInts_c (a b : List Int) (ha : a.length ≤ 9223372036854775807) : Con Tryz.prog 22 [.sl a.length (avs a), .sl b.length (avs b)] (.bool (decide (a = b))) := by
  by_cases hl : a.length = b.length
  · refine con_of_vc Tryz.mixed ⟨6, [], [], []⟩ Tryz.func22 (by decide) rfl (by simp) (by decide) (by simp [freshOK, freshL, go_sem]) ?_
    rw [Tryz.ntmps22]
    simp [go_sem]
    simp [go_sem, hl]
    refine loop_inv (4 :: 5 :: List.range' 11 15) (fun i : Nat => [(5, .int i)]) (fun i => i ≤ a.length ∧ ∀ j, j < i → a[j]?.getD 0 = b[j]?.getD 0) (fun i => a.length - i) 0 (by simp) (by simp [go_sem]) (by simp [go_sem]) ?_
    rintro i ⟨hi, hj⟩
    simp [go_sem]
    refine ⟨fun h => ?_, fun h => ?_⟩ <;> simp at h
    · have hia : i < a.length := by omega
      have hib : i < b.length := by omega
      have na : ¬ a = [] := by rintro rfl; simp at hia
      have nb : ¬ b = [] := by rintro rfl; simp at hib
      simp [go_sem, avs_drop hia, avs_drop hib]
      refine ⟨by kernel_rfl, ⟨hib, na⟩, ⟨hib, nb⟩, ?_⟩
      refine ⟨by kernel_rfl, ?_⟩
      simp [go_sem]
      refine ⟨fun h2 => ?_, fun h2 => ?_⟩ <;> simp at h2
      · have e : ¬ a = b := fun e => h2 (by rw [e])
        simp [go_sem, e]
      · simp [go_sem]
        refine ⟨by omega, i + 1, ⟨by omega, fun j hj2 => ?_⟩, by omega, Off_reset _ _ _ (by simp), by omega⟩
        rcases Nat.lt_or_ge j i with h3 | h3
        · exact hj j h3
        · have : j = i := by omega
          subst this
          exact h2
    · have e : a = b := by
        refine List.ext_getElem hl fun k h1 h2 => ?_
        have := hj k (by omega)
        simpa [h1, h2] using this
      simp [go_sem, e]
  · have e : ¬ a = b := fun e => hl (by rw [e])
    have hl2 : ¬ (a.length : Int) = b.length := by omega
    refine con_of_vc Tryz.mixed ⟨6, [], [], []⟩ Tryz.func22 (by decide) rfl (by simp) (by decide) (by simp [freshOK, freshL, go_sem]) ?_
    rw [Tryz.ntmps22]
    simp [go_sem]
    simp [go_sem, hl2, e]
end Go.Proofs.YtbeekabpflaihaaGreat


namespace Go.Proofs.YtbeekabpflaihaaGreat
set_option linter.unusedSectionVars false
set_option linter.unusedVariables false
set_option linter.unusedSimpArgs false
abbrev Key3 := Int × Int × Int
def sumI {α : Type} (f : α → Int) : List α → Int
  | [] => 0
  | a :: l => f a + sumI f l
theorem sumI_app {α : Type} (f : α → Int) (l r : List α) : sumI f (l ++ r) = sumI f l + sumI f r := by
  induction l with
  | nil => simp [sumI]
  | cons a l ih => simp [sumI, ih]; omega
theorem sumI_add {α : Type} (f g : α → Int) : ∀ l : List α, sumI (fun a => f a + g a) l = sumI f l + sumI g l
  | [] => rfl
  | a :: l => by simp only [sumI, sumI_add f g l]; omega
theorem sumI_mul {α : Type} (c : Int) (f : α → Int) : ∀ l : List α, sumI (fun a => c * f a) l = c * sumI f l
  | [] => by simp [sumI]
  | a :: l => by simp only [sumI, sumI_mul c f l, Int.mul_add]
theorem sumI_zero {α : Type} {f : α → Int} : ∀ {l : List α}, (∀ a ∈ l, f a = 0) → sumI f l = 0
  | [], _ => rfl
  | a :: l, h => by simp only [sumI, h a (by simp), sumI_zero (l := l) (fun b hb => h b (by simp [hb]))]; rfl
theorem sumI_congr {α : Type} {f g : α → Int} : ∀ {l : List α}, (∀ a ∈ l, f a = g a) → sumI f l = sumI g l
  | [], _ => rfl
  | a :: l, h => by simp only [sumI, h a (by simp), sumI_congr (l := l) (fun b hb => h b (by simp [hb]))]
theorem sumI_mod {α : Type} {P : Int} {f g : α → Int} : ∀ {l : List α}, (∀ a ∈ l, f a % P = g a % P) → sumI f l % P = sumI g l % P
  | [], _ => rfl
  | a :: l, h => by
    simp only [sumI]
    rw [Int.add_emod, h a (by simp), sumI_mod (l := l) (fun b hb => h b (by simp [hb])), ← Int.add_emod]
theorem sumI_swap {α β : Type} (f : α → β → Int) : ∀ (l : List α) (r : List β), sumI (fun a => sumI (fun b => f a b) r) l = sumI (fun b => sumI (fun a => f a b) l) r
  | [], r => by simp only [sumI]; exact (sumI_zero (fun _ _ => rfl)).symm
  | a :: l, r => by
    simp only [sumI]
    rw [sumI_swap f l r, ← sumI_add]
def r4 : List Int := [0, 1, 2, 3]
def box : List Key3 := r4.flatMap fun i => r4.flatMap fun j => r4.map fun k => (i, j, k)
theorem mem_box {k : Key3} : k ∈ box ↔ 0 ≤ k.1 ∧ k.1 ≤ 3 ∧ 0 ≤ k.2.1 ∧ k.2.1 ≤ 3 ∧ 0 ≤ k.2.2 ∧ k.2.2 ≤ 3 := by
  obtain ⟨a, b, c⟩ := k
  have h4 : ∀ x : Int, x ∈ r4 ↔ 0 ≤ x ∧ x ≤ 3 := fun x => by simp [r4]; omega
  simp only [box, List.mem_flatMap, List.mem_map, Prod.mk.injEq]
  constructor
  · rintro ⟨i, hi, j, hj, k, hk, rfl, rfl, rfl⟩
    have := (h4 i).1 hi; have := (h4 j).1 hj; have := (h4 k).1 hk
    omega
  · rintro ⟨h1, h2, h3, h5, h6, h7⟩
    exact ⟨a, (h4 a).2 ⟨h1, h2⟩, b, (h4 b).2 ⟨h3, h5⟩, c, (h4 c).2 ⟨h6, h7⟩, rfl, rfl, rfl⟩
def coef {α : Type} (key : α → Key3) (num : α → Int) (l : List α) (k : Key3) : Int := sumI (fun a => if k = key a then num a else 0) l
end Go.Proofs.YtbeekabpflaihaaGreat


namespace Go.Proofs.YtbeekabpflaihaaGreat
open Go.Abs
set_option linter.unusedSectionVars false
set_option linter.unusedVariables false
set_option linter.unusedSimpArgs false
set_option maxHeartbeats 1000000
abbrev Mon := Int × List Int
def mons (p : List Mon) : List AV := p.flatMap fun m => [.int m.1, .sl m.2.length (avs m.2)]
def omons (p : List Mon) : List AV := p.flatMap fun m => [.int m.1, .own 2 m.2.length (avs m.2)]
def prt (f : List (List Mon)) : List AV := f.map fun p => .sl p.length (mons p)
def oprt (f : List (List Mon)) : List AV := f.map fun p => .own 127 p.length (omons p)
theorem mons_cons (m : Mon) (p : List Mon) : mons (m :: p) = .int m.1 :: .sl m.2.length (avs m.2) :: mons p := rfl
theorem omons_cons (m : Mon) (p : List Mon) : omons (m :: p) = .int m.1 :: .own 2 m.2.length (avs m.2) :: omons p := rfl
@[simp] theorem mons_nil : mons [] = [] := rfl
@[simp] theorem omons_nil : omons [] = [] := rfl
@[simp] theorem mons_len : ∀ p : List Mon, (mons p).length = p.length * 2
  | [] => rfl
  | m :: p => by rw [mons_cons]; simp [mons_len p]; omega
@[simp] theorem omons_len : ∀ p : List Mon, (omons p).length = p.length * 2
  | [] => rfl
  | m :: p => by rw [omons_cons]; simp [omons_len p]; omega
@[simp] theorem mons_ne {p : List Mon} : (mons p = []) = (p = []) := by cases p <;> simp [mons_cons]
@[simp] theorem prt_len (f : List (List Mon)) : (prt f).length = f.length := by simp [prt]
@[simp] theorem oprt_len (f : List (List Mon)) : (oprt f).length = f.length := by simp [oprt]
@[simp] theorem prt_ne {f : List (List Mon)} : (prt f = []) = (f = []) := by cases f <;> simp [prt]
@[simp] theorem omons_frz : ∀ p : List Mon, frzL (omons p) = mons p
  | [] => rfl
  | m :: p => by rw [omons_cons, mons_cons]; simp [frzL, frz, omons_frz p]
@[simp] theorem mons_frz : ∀ p : List Mon, frzL (mons p) = mons p
  | [] => rfl
  | m :: p => by rw [mons_cons]; simp [frzL, frz, mons_frz p]
@[simp] theorem omons_fresh : ∀ p : List Mon, freshL (omons p) = true
  | [] => rfl
  | m :: p => by rw [omons_cons]; simp [freshL, freshOK, omons_fresh p]
@[simp] theorem oprt_frz : ∀ f : List (List Mon), frzL (oprt f) = prt f
  | [] => rfl
  | p :: f => by have := oprt_frz f; simp only [oprt, prt, List.map_cons, frzL] at this ⊢; rw [this]; simp [frz]
@[simp] theorem oprt_fresh : ∀ f : List (List Mon), freshL (oprt f) = true
  | [] => rfl
  | p :: f => by have := oprt_fresh f; simp only [oprt, List.map_cons, freshL] at this ⊢; rw [this]; simp [freshOK]
theorem mons_drop : ∀ {p : List Mon} {k : Nat}, k < p.length → (mons p).drop (k * 2) = .val (.int .i64 (p[k]?.getD (0, [])).1) :: .sl (p[k]?.getD (0, [])).2.length (avs (p[k]?.getD (0, [])).2) :: mons (p.drop (k + 1))
  | m :: p, 0, _ => rfl
  | m :: p, k + 1, h => by
    have := mons_drop (p := p) (k := k) (by simpa using h)
    rw [mons_cons, show (k + 1) * 2 = k * 2 + 1 + 1 by omega]
    simpa using this
theorem prt_drop {f : List (List Mon)} {k : Nat} (h : k < f.length) : (prt f).drop k = .sl (f[k]?.getD []).length (mons (f[k]?.getD [])) :: prt (f.drop (k + 1)) := by
  rw [prt, ← List.map_drop, List.drop_eq_getElem_cons h, List.map_cons]; simp [h, prt]
def sumC {α : Type} (c : α → Nat) : List α → Nat
  | [] => 0
  | a :: l => c a + sumC c l
structure SzOk {α : Type} (g : Int → α → Int) (c : α → Nat) : Prop where
  lo : ∀ l a, -1 ≤ g l a
  hi : ∀ l a, 0 ≤ l → g l a ≤ l
  ok : ∀ l a, 0 ≤ l → 0 ≤ g l a → (c a : Int) ≤ l - g l a
def cM (m : Mon) : Nat := m.2.length
def cP (p : List Mon) : Nat := p.length + sumC cM p
def cF (f : List (List Mon)) : Nat := f.length + sumC cP f
end Go.Proofs.YtbeekabpflaihaaGreat


namespace Go.Proofs.YtbeekabpflaihaaGreat
open Go.Abs
set_option linter.unusedSectionVars false
set_option linter.unusedVariables false
set_option linter.unusedSimpArgs false
set_option maxHeartbeats 1000000
theorem omons_app (p q : List Mon) : omons (p ++ q) = omons p ++ omons q := by simp [omons]
theorem oprt_app (f g : List (List Mon)) : oprt (f ++ g) = oprt f ++ oprt g := by simp [oprt]
end Go.Proofs.YtbeekabpflaihaaGreat


namespace Go.Proofs.YtbeekabpflaihaaGreat
open Go.Abs
set_option linter.unusedSectionVars false
set_option linter.unusedVariables false
set_option linter.unusedSimpArgs false
set_option maxHeartbeats 1000000
theorem avs_at' {xs : List Int} {k : Nat} (h : k < xs.length) : (avs xs)[k]? = some (AV.val (.int .i64 (xs[k]?.getD 0))) := by simp [avs, h]
def ltL : List Int → List Int → Bool
  | _, [] => false
  | [], _ :: _ => true
  | x :: xs, y :: ys => if x = y then ltL xs ys else decide (x < y)
theorem ltL_at : ∀ {a b : List Int} {i : Nat}, i < a.length → i < b.length → a.take i = b.take i → a[i]?.getD 0 ≠ b[i]?.getD 0 → ltL a b = decide (a[i]?.getD 0 < b[i]?.getD 0)
  | x :: a, y :: b, 0, _, _, _, h => by
    simp at h
    simp [ltL, h]
  | x :: a, y :: b, i + 1, h1, h2, h3, h4 => by
    simp at h3
    simp only [ltL, if_pos h3.1]
    simpa using ltL_at (a := a) (b := b) (i := i) (by simpa using h1) (by simpa using h2) h3.2 (by simpa using h4)
theorem ltL_end : ∀ {a b : List Int} {i : Nat}, a.take i = b.take i → i ≤ a.length → i ≤ b.length → (a.length ≤ i ∨ b.length ≤ i) → ltL a b = decide (a.length < b.length)
  | _, [], i, _, _, _, _ => by simp [ltL]
  | [], _ :: _, i, _, _, _, _ => by simp [ltL]
  | x :: a, y :: b, 0, _, h1, h2, h3 => by simp at h3
  | x :: a, y :: b, i + 1, h, h1, h2, h3 => by
    simp at h
    simp only [ltL, if_pos h.1]
    have := ltL_end (a := a) (b := b) (i := i) h.2 (by simpa using h1) (by simpa using h2) (by simpa using h3)
    rw [this]; simp
theorem take_ext {a b : List Int} {i : Nat} (h1 : i < a.length) (h2 : i < b.length) (h : a.take i = b.take i) (e : a[i]?.getD 0 = b[i]?.getD 0) : a.take (i + 1) = b.take (i + 1) := by
  rw [List.getElem?_eq_getElem h1, List.getElem?_eq_getElem h2] at e
  simp at e
  rw [List.take_add_one, List.take_add_one, h, List.getElem?_eq_getElem h1, List.getElem?_eq_getElem h2, e]
set_option maxRecDepth 100000 in
theorem l01Less_c (a b : List Int) (ha : a.length ≤ 9223372036854775807) (hb : b.length ≤ 9223372036854775807) : Con Tryz.prog 100 [.sl a.length (avs a), .sl b.length (avs b)] (.bool (ltL a b)) := by
  refine con_of_vc Tryz.mixed ⟨6, [], [], []⟩ Tryz.func100 (by decide) rfl (by simp) (by decide) (by simp [freshOK, freshL, go_sem]) ?_
  rw [Tryz.ntmps100]
  simp [go_sem]
  refine loop_inv (4 :: 5 :: List.range' 6 30) (fun i : Nat => [(5, .int i)]) (fun i => i ≤ a.length ∧ i ≤ b.length ∧ a.take i = b.take i) (fun i => a.length - i) 0 (by simp) (by simp [go_sem]) (by simp [go_sem]) ?_
  rintro i ⟨hi, hj, he⟩
  by_cases h1 : i < a.length
  · by_cases h2 : i < b.length
    · have h1' : (i : Int) < a.length := by omega
      have h2' : (i : Int) < b.length := by omega
      by_cases hd : a[i]?.getD 0 = b[i]?.getD 0
      · simp [go_sem, h1, h2, h1', h2', avs_drop h1, avs_drop h2, hd]
        refine ⟨by kernel_rfl, by rintro rfl; simp at h1, by rintro rfl; simp at h2, ?_⟩
        have hd2 : a[i] = b[i] := by simpa [h1, h2] using hd
        refine ⟨by kernel_rfl, ?_⟩
        simp [go_sem]
        simp [go_sem, hd2]
        refine ⟨by omega, i + 1, ⟨by omega, by omega, take_ext h1 h2 he hd⟩, by omega, Off_reset _ _ _ (by simp), by omega⟩
      · simp [go_sem, h1, h2, h1', h2', avs_drop h1, avs_drop h2, hd]
        refine ⟨by kernel_rfl, by rintro rfl; simp at h1, by rintro rfl; simp at h2, ?_⟩
        have hd2 : ¬ a[i] = b[i] := by simpa [h1, h2] using hd
        refine ⟨by kernel_rfl, ?_⟩
        simp [go_sem]
        simp [go_sem, hd2, avs_drop h1, avs_drop h2]
        refine ⟨by kernel_rfl, ⟨h1, by rintro rfl; simp at h1⟩, ⟨h2, by rintro rfl; simp at h2⟩, ?_⟩
        refine ⟨by kernel_rfl, ?_⟩
        simp [go_sem]
        rw [ltL_at h1 h2 he hd]
    · have h2' : ¬ (i : Int) < b.length := by omega
      simp [go_sem, h1, h2, h2']
      rw [ltL_end he hi hj (.inr (by omega))]
  · simp [go_sem, h1]
    rw [ltL_end he hi hj (.inl (by omega))]
def degL : List Int → Int → Int
  | [], s => s
  | x :: xs, s => if x < 0 ∨ 100 < x then 1000 else degL xs (s + x)
set_option maxRecDepth 100000 in
theorem l13Degree_c (a : List Int) (ha : a.length ≤ 1048576) : Con Tryz.prog 99 [.sl a.length (avs a)] (.int (degL a 0)) := by
  refine con_of_vc Tryz.mixed ⟨5, [], [], []⟩ Tryz.func99 (by decide) rfl (by simp) (by decide) (by simp [freshOK, freshL, go_sem]) ?_
  rw [Tryz.ntmps99]
  simp [go_sem]
  refine loop_inv (2 :: 3 :: 4 :: List.range' 5 24) (fun x : Nat × Int => [(3, .int x.2), (4, .int x.1)]) (fun x => x.1 ≤ a.length ∧ 0 ≤ x.2 ∧ x.2 ≤ 100 * x.1 ∧ degL (a.drop x.1) x.2 = degL a 0) (fun x => a.length - x.1) (0, 0) (by simp) (by simp [go_sem]) (by simp [go_sem]) ?_
  rintro ⟨i, s⟩ ⟨hi, hs0, hs1, he⟩
  simp only at hi hs0 hs1 he
  simp [go_sem]
  refine ⟨fun h => ?_, fun h => ?_⟩ <;> simp at h
  · have hd : a.drop i = a[i]?.getD 0 :: a.drop (i + 1) := by rw [List.drop_eq_getElem_cons h]; simp [h]
    rw [hd, degL] at he
    by_cases b1 : a[i]?.getD 0 < 0
    · simp [go_sem, avs_drop h, b1]
      rw [if_pos (.inl b1)] at he
      exact ⟨⟨h, by rintro rfl; simp at h⟩, he⟩
    · by_cases b2 : 100 < a[i]?.getD 0
      · simp [go_sem, avs_drop h, b1, b2]
        rw [if_pos (.inr b2)] at he
        exact ⟨⟨h, by rintro rfl; simp at h⟩, he⟩
      · simp [go_sem, avs_drop h, b1, b2]
        rw [if_neg (by omega)] at he
        refine ⟨⟨h, by rintro rfl; simp at h⟩, by omega, by omega, i + 1, _, ⟨by omega, by omega, by omega, he⟩, by omega, Off_reset _ _ _ (by simp), rfl, by omega⟩
  · simp [go_sem]
    rw [List.drop_eq_nil_of_le h] at he
    exact he
def monB (z : Int) (m : Mon) : Bool := decide (1 ≤ m.1 ∧ m.1 ≤ 10006) && decide ((m.2.length : Int) = z) && decide (degL m.2 0 ≤ 3)
def atB (z : Int) (p : List Mon) (j : Nat) : Bool := monB z (p[j]?.getD (0, [])) && (decide (j = 0) || ltL (p[j - 1]?.getD (0, [])).2 (p[j]?.getD (0, [])).2)
def partB (z : Int) (p : List Mon) : Bool := (List.range p.length).all (atB z p)
def fieldB (z : Int) (f : List (List Mon)) : Bool := decide (1 ≤ z ∧ z ≤ 3) && decide ((f.length : Int) = z) && f.all (partB z)
theorem partB_no {z : Int} {p : List Mon} {j : Nat} (hj : j < p.length) (h : atB z p j = false) : partB z p = false := by
  unfold partB; rw [List.all_eq_false]; exact ⟨j, by simpa using hj, by simp [h]⟩
theorem partB_yes {z : Int} {p : List Mon} (h : ∀ j, j < p.length → atB z p j = true) : partB z p = true := by
  unfold partB; rw [List.all_eq_true]; intro j hj; exact h j (by simpa using hj)
theorem fieldB_no {z : Int} {f : List (List Mon)} {i : Nat} (hi : i < f.length) (h : partB z (f[i]?.getD []) = false) : fieldB z f = false := by
  unfold fieldB
  have : f.all (partB z) = false := by rw [List.all_eq_false]; exact ⟨f[i]?.getD [], by simp [hi], by simp [h]⟩
  rw [this]; simp
def Small (f : List (List Mon)) : Prop := f.length ≤ 1048576 ∧ ∀ p ∈ f, p.length ≤ 1048576 ∧ ∀ q ∈ p, q.2.length ≤ 1048576
set_option maxRecDepth 100000 in
theorem l13Is_c (z : Int) (f : List (List Mon)) (hf : Small f) : Con Tryz.prog 40 [.agg [.int z, .sl f.length (prt f)]] (.bool (fieldB z f)) := by
  have fl := hf.1
  refine con_of_vc Tryz.mixed ⟨6, [], [], []⟩ Tryz.func40 (by decide) rfl (by simp) (by decide) (by simp [freshOK, freshL, go_sem]) ?_
  rw [Tryz.ntmps40]
  simp [go_sem]
  refine CallVC.of (l01In_c z 1 3) (by decide) ?_
  simp [go_sem]
  by_cases hz : 1 ≤ z ∧ z ≤ 3
  · by_cases hl : (f.length : Int) = z
    · have fine : fieldB z f = f.all (partB z) := by unfold fieldB; simp [hz, hl]
      simp [go_sem, hz.1, hz.2, hl]
      refine loop_inv (2 :: 3 :: 4 :: 5 :: List.range' 18 61) (fun i : Nat => [(3, .int i)]) (fun i => i ≤ f.length ∧ ∀ p ∈ f.take i, partB z p = true) (fun i => f.length - i) 0 (by simp) (by simp [go_sem]) (by simp [go_sem]) ?_
      rintro i ⟨hi, hp⟩
      simp [go_sem]
      refine ⟨fun h => ?_, fun h => ?_⟩ <;> simp at h
      · have hx : f[i]?.getD [] ∈ f := by simp [h]
        obtain ⟨hm1, hm2⟩ := hf.2 _ hx
        simp [go_sem]
        refine loop_inv (2 :: 4 :: 5 :: List.range' 25 54) (fun j : Nat => [(4, .int j)]) (fun j => j ≤ (f[i]?.getD []).length ∧ ∀ k, k < j → atB z (f[i]?.getD []) k = true) (fun j => (f[i]?.getD []).length - j) 0 (by simp) (by simp [go_sem]) (by simp [go_sem]) ?_
        rintro j ⟨hj, hq⟩
        have hif := h
        simp [go_sem, prt_drop hif]
        refine ⟨⟨hif, by rintro rfl; simp at hif⟩, ?_⟩
        generalize hP : f[i]?.getD [] = P at *
        refine ⟨fun h => ?_, fun h => ?_⟩ <;> simp at h
        · have hy : P[j]?.getD (0, []) ∈ P := by simp [h]
          have hm := hm2 _ hy
          have hno : atB z P j = false → fieldB z f = false := fun hh => fieldB_no hif (by rw [hP]; exact partB_no h hh)
          simp [go_sem, prt_drop hif, hP, mons_drop h]
          refine ⟨⟨hif, by rintro rfl; simp at hif⟩, ⟨h, by rintro rfl; simp at h⟩, ?_⟩
          generalize hM : P[j]?.getD (0, []) = m at *
          have cD := l13Degree_c m.2 hm
          refine CallVC.of (l01In_c _ _ _) (by decide) ?_
          by_cases c1 : 1 ≤ m.1 ∧ m.1 ≤ 10006
          · by_cases c2 : (m.2.length : Int) = z
            · simp [go_sem, c1.1, c1.2, c2]
              refine CallVC.of (cD) (by decide) ?_
              by_cases c3 : degL m.2 0 ≤ 3
              · have c3' : ¬ 3 < degL m.2 0 := by omega
                have hmb : monB z m = true := by unfold monB; simp [c1, c2, c3]
                simp [go_sem, c3']
                refine ⟨by kernel_rfl, ?_⟩
                by_cases j0 : 0 < j
                · have hk : j - 1 < P.length := by omega
                  have ek : (j : Int) - 1 = ((j - 1 : Nat) : Int) := by omega
                  have hyk : P[j - 1]?.getD (0, []) ∈ P := by simp [hk]
                  have hmk := hm2 _ hyk
                  have cL := l01Less_c (P[j - 1]?.getD (0, [])).2 m.2 (by omega) (by omega)
                  have hat : atB z P j = ltL (P[j - 1]?.getD (0, [])).2 m.2 := by unfold atB; rw [hM, hmb, decide_eq_false (by omega : ¬ j = 0)]; simp
                  simp [go_sem, j0, ek, prt_drop hif, hP, mons_drop hk]
                  generalize (P[j - 1]?.getD (0, [])).2 = pw0 at *
                  refine ⟨⟨hif, by rintro rfl; simp at hif⟩, by omega, ⟨hk, by rintro rfl; simp at h⟩, ?_⟩
                  generalize hL : ltL pw0 m.2 = bb at *
                  refine CallD.of (cL) (by simp [roots, rootsL]) (by decide) ?_
                  simp [go_sem]
                  cases bb with
                  | false =>
                    simp [go_sem]
                    refine ⟨by kernel_rfl, ?_⟩
                    simp [go_sem]
                    rw [hno hat]
                  | true =>
                    simp [go_sem]
                    refine ⟨by kernel_rfl, ?_⟩
                    simp [go_sem]
                    refine ⟨by omega, j + 1, ⟨by omega, fun k hk2 => ?_⟩, by omega, Off_reset _ _ _ (by simp), by omega⟩
                    by_cases e : k = j
                    · rw [e]; exact hat
                    · exact hq k (by omega)
                · simp [go_sem, j0]
                  refine ⟨by kernel_rfl, ?_⟩
                  simp [go_sem]
                  have hat : atB z P j = true := by unfold atB; rw [hM, hmb, decide_eq_true (by omega : j = 0)]; rfl
                  refine ⟨by omega, j + 1, ⟨by omega, fun k hk2 => ?_⟩, by omega, Off_reset _ _ _ (by simp), by omega⟩
                  by_cases e : k = j
                  · rw [e]; exact hat
                  · exact hq k (by omega)
              · have c3' : 3 < degL m.2 0 := by omega
                simp [go_sem, c3']
                rw [hno (by unfold atB monB; rw [hM, decide_eq_false c3]; simp)]
            · simp [go_sem, c1.1, c1.2, c2]
              rw [hno (by unfold atB monB; simp [hM, c2])]
          · have c1' : (decide (1 ≤ m.1) && decide (m.1 ≤ 10006)) = false := by simpa using c1
            rw [c1']
            simp [go_sem]
            rw [hno (by unfold atB monB; rw [hM, decide_eq_false c1]; simp)]
        · simp [go_sem]
          have hpb : partB z P = true := partB_yes (fun k hk => hq k (by omega))
          refine ⟨by omega, i + 1, ⟨by omega, take_all hif hp (by rw [← hP] at hpb; simpa [hif] using hpb)⟩, by omega, (Off.reset (by intro x hx; simp at hx ⊢; omega) (by simp) (by simp [go_sem, Off_reset])), by omega⟩
      · simp [go_sem]
        rw [List.take_of_length_le h] at hp
        rw [fine, List.all_eq_true.2 hp]
    · simp [go_sem, hz.1, hz.2, hl]
      unfold fieldB; simp [hl]
  · have hz' : (decide (1 ≤ z) && decide (z ≤ 3)) = false := by simpa using hz
    rw [hz']
    simp [go_sem]
    unfold fieldB; rw [decide_eq_false hz]; simp
end Go.Proofs.YtbeekabpflaihaaGreat


namespace Go.Proofs.YtbeekabpflaihaaGreat
open Go.Abs
set_option linter.unusedSectionVars false
set_option linter.unusedVariables false
set_option linter.unusedSimpArgs false
set_option maxHeartbeats 1000000
theorem degL_le : ∀ {xs : List Int} {s : Int}, 0 ≤ s → degL xs s ≤ 3 → (∀ x ∈ xs, 0 ≤ x ∧ x ≤ 3) ∧ s + xs.sum ≤ 3
  | [], s, h0, h => by simpa [degL] using h
  | x :: xs, s, h0, h => by
    rw [degL] at h
    split at h
    · omega
    · rename_i hx
      have hd := degL_le (xs := xs) (s := s + x) (by omega) h
      have pos : ∀ (l : List Int), (∀ x ∈ l, 0 ≤ x ∧ x ≤ 3) → 0 ≤ l.sum := by
        intro l
        induction l with
        | nil => simp
        | cons a l ih => intro h; have h1 := h a (by simp); have h2 := ih (fun x hx => h x (by simp [hx])); simp; omega
      have hs := pos xs hd.1
      have hd2 := hd.2
      refine ⟨fun y hy => ?_, by simp; omega⟩
      rcases List.mem_cons.1 hy with rfl | hy
      · omega
      · exact hd.1 y hy
structure MonOk (z : Int) (m : Mon) : Prop where
  lo : 1 ≤ m.1
  hi : m.1 ≤ 10006
  len : (m.2.length : Int) = z
  pw : ∀ x ∈ m.2, 0 ≤ x ∧ x ≤ 3
  deg : m.2.sum ≤ 3
theorem monB_ok {z : Int} {m : Mon} (h : monB z m = true) : MonOk z m := by
  unfold monB at h
  simp only [Bool.and_eq_true, decide_eq_true_eq] at h
  have := degL_le (by omega : (0 : Int) ≤ 0) h.2
  exact ⟨h.1.1.1, h.1.1.2, h.1.2, this.1, by omega⟩
theorem MonOk.get {z : Int} {m : Mon} (h : MonOk z m) (k : Nat) : 0 ≤ m.2[k]?.getD 0 ∧ m.2[k]?.getD 0 ≤ 3 := by
  rcases Nat.lt_or_ge k m.2.length with hk | hk
  · simp [hk]; exact h.pw _ (List.getElem_mem hk)
  · simp [hk]
structure FieldOk (z : Int) (f : List (List Mon)) : Prop where
  lo : 1 ≤ z
  hi : z ≤ 3
  len : (f.length : Int) = z
  part : ∀ p ∈ f, partB z p = true
theorem fieldB_iff {z : Int} {f : List (List Mon)} : fieldB z f = true ↔ FieldOk z f := by
  unfold fieldB
  simp only [Bool.and_eq_true, decide_eq_true_eq, List.all_eq_true]
  exact ⟨fun ⟨⟨⟨a, b⟩, c⟩, d⟩ => ⟨a, b, c, d⟩, fun ⟨a, b, c, d⟩ => ⟨⟨⟨a, b⟩, c⟩, d⟩⟩
theorem partB_at {z : Int} {p : List Mon} (h : partB z p = true) {j : Nat} (hj : j < p.length) : MonOk z (p[j]?.getD (0, [])) ∧ (0 < j → ltL (p[j - 1]?.getD (0, [])).2 (p[j]?.getD (0, [])).2 = true) := by
  unfold partB at h
  have := (List.all_eq_true.1 h) j (by simpa using hj)
  unfold atB at this
  simp only [Bool.and_eq_true, Bool.or_eq_true, decide_eq_true_eq] at this
  exact ⟨monB_ok this.1, fun h0 => this.2.resolve_left (by omega)⟩
theorem partB_mem {z : Int} {p : List Mon} (h : partB z p = true) {m : Mon} (hm : m ∈ p) : MonOk z m := by
  obtain ⟨j, hj, rfl⟩ := List.getElem_of_mem hm
  have := (partB_at h hj).1
  simpa [hj] using this
def tmF (y e : List Int) (x : Int) : Nat → Int
  | 0 => x
  | i + 1 => tmF y e x i * Go.Proofs.YtbeekabpflaihaaGreat.pw (y[i]?.getD 0) (e[i]?.getD 0) % 10007
theorem tmF_N {y e : List Int} {x : Int} (h : isN x) : ∀ i, isN (tmF y e x i)
  | 0 => h
  | i + 1 => isN_mod _
def vsum (y : List Int) : List Mon → Int
  | [] => 0
  | m :: p => tmF y m.2 m.1 y.length + vsum y p
theorem vsum_app (y : List Int) (p q : List Mon) : vsum y (p ++ q) = vsum y p + vsum y q := by
  induction p with
  | nil => simp [vsum]
  | cons a p ih => simp [vsum, ih]; omega
theorem vsum_take {y : List Int} {p : List Mon} {i : Nat} (h : i < p.length) : vsum y (p.take (i + 1)) = vsum y (p.take i) + tmF y (p[i]?.getD (0, [])).2 (p[i]?.getD (0, [])).1 y.length := by
  rw [List.take_add_one, vsum_app]; simp [h, vsum]
theorem l13Point_c (z : Int) (y : List Int) (hl : y.length ≤ 9223372036854775807) : Con Tryz.prog 41 [.int z, .sl y.length (avs y)] (.bool (decide ((y.length : Int) = z) && numsB y)) := by
  refine con_of_vc Tryz.mixed ⟨5, [], [], []⟩ Tryz.func41 (by decide) rfl (by simp) (by decide) (by simp [freshOK, freshL, go_sem]) ?_
  rw [Tryz.ntmps41]
  simp [go_sem]
  by_cases h : (y.length : Int) = z
  · simp [go_sem, h]
    refine CallVC.of (l01Numbers_c y hl) (by decide) ?_
    simp [go_sem]
  · simp [go_sem, h]
set_option maxRecDepth 100000 in
theorem l13Value_c (p : List Mon) (y : List Int) (hy : Ns y) (hl : y.length ≤ 1000) (hp : p.length ≤ 1048576) (hm : ∀ m ∈ p, MonOk y.length m) :
    Con Tryz.prog 222 [.sl p.length (mons p), .sl y.length (avs y)] (.int (vsum y p % 10007)) := by
  refine con_of_vc Tryz.mixed ⟨9, [], [], []⟩ Tryz.func222 (by decide) rfl (by simp) (by decide) (by simp [freshOK, freshL, go_sem]) ?_
  rw [Tryz.ntmps222]
  simp [go_sem]
  refine loop_inv (5 :: 6 :: 7 :: 8 :: List.range' 9 35) (fun i : Nat => [(5, .int (vsum y (p.take i) % 10007)), (6, .int i)]) (fun i => i ≤ p.length) (fun i => p.length - i) 0 (by simp) (by simp [go_sem, vsum]) (by simp [go_sem]) ?_
  intro i hi
  simp [go_sem]
  refine ⟨fun h => ?_, fun h => ?_⟩ <;> simp at h
  · have hif := h
    have hx : p[i]?.getD (0, []) ∈ p := by simp [h]
    have ho := hm _ hx
    have hv := vsum_take (y := y) h
    simp [go_sem, mons_drop hif]
    refine ⟨⟨hif, by rintro rfl; simp at hif⟩, ?_⟩
    generalize hM : p[i]?.getD (0, []) = m at *
    have hml : m.2.length = y.length := by have := ho.len; omega
    have hx1 : isN m.1 := ⟨by have := ho.lo; omega, by have := ho.hi; omega⟩
    refine loop_inv (7 :: 8 :: List.range' 20 21) (fun k : Nat => [(7, .int (tmF y m.2 m.1 k)), (8, .int k)]) (fun k => k ≤ y.length) (fun k => y.length - k) 0 (by simp) (by simp [go_sem, tmF]) (by simp [go_sem]) ?_
    intro k hk
    simp [go_sem]
    refine ⟨fun h => ?_, fun h => ?_⟩ <;> simp at h
    · have hk2 : k < m.2.length := by omega
      have g := ho.get k
      simp [go_sem, mons_drop hif, hM, avs_drop h, avs_drop hk2]
      refine ⟨by kernel_rfl, ⟨h, by rintro rfl; simp at h⟩, ⟨hif, by rintro rfl; simp at hif⟩, ⟨hk2, fun e => by rw [e] at hk2; simp at hk2⟩, ?_⟩
      refine CallD.of (l01Pow_c _ _ (hy.get k) g.1 (by omega)) (by simp [roots, rootsL]) (by decide) ?_
      simp [go_sem]
      refine CallD.of (l01Mul_c _ _ (mul_fits (tmF_N hx1 k) (isN_mod _))) (by simp [roots, rootsL]) (by decide) ?_
      simp [go_sem]
      refine ⟨by kernel_rfl, ?_⟩
      simp [go_sem]
      refine ⟨by omega, k + 1, by omega, by omega, Off_reset _ _ _ (by simp), by simp [tmF], by omega⟩
    · have e : k = y.length := by omega
      subst e
      simp [go_sem]
      refine CallVC.of (l01Add_c _ _ (add_fits (isN_mod _) (tmF_N hx1 _))) (by decide) ?_
      simp [go_sem]
      refine ⟨by omega, i + 1, by omega, by omega, (Off.reset (by intro x hx; simp at hx ⊢; omega) (by simp) (by simp [go_sem, Off_reset])), ?_, by omega⟩
      rw [hv]
  · simp [go_sem]
    have e : i = p.length := by omega
    subst e; simp
def evL (y : List Int) (f : List (List Mon)) : List Int := f.map fun p => vsum y p % 10007
@[simp] theorem evL_len (y : List Int) (f : List (List Mon)) : (evL y f).length = f.length := by simp [evL]
theorem evL_take {y : List Int} {f : List (List Mon)} {i : Nat} (h : i < f.length) : evL y (f.take (i + 1)) = evL y (f.take i) ++ [vsum y (f[i]?.getD []) % 10007] := by
  rw [evL, evL, List.take_add_one, List.map_append, List.getElem?_eq_getElem h]; rfl
theorem l13Field_c (z : Int) (f : List (List Mon)) (y : List Int) (hf : FieldOk z f) (hs : Small f) (hy : Ns y) (hl : (y.length : Int) = z) :
    Con Tryz.prog 183 [.agg [.int z, .sl f.length (prt f)], .sl y.length (avs y)] (.own 2 f.length (avs (evL y f))) := by
  have fl := hs.1
  have z3 := hf.hi
  refine con_of_vc Tryz.mixed ⟨7, [], [], []⟩ Tryz.func183 (by decide) rfl (by simp) (by decide) (by simp [freshOK, freshL, go_sem]) ?_
  rw [Tryz.ntmps183]
  simp [go_sem]
  refine loop_inv (5 :: 6 :: List.range' 8 17) (fun i : Nat => [(5, .own 2 i (avs (evL y (f.take i)))), (6, .int i)]) (fun i => i ≤ f.length) (fun i => f.length - i) 0 (by simp) (by simp [go_sem, evL]) (by simp [go_sem]) ?_
  intro i hi
  simp [go_sem]
  refine ⟨fun h => ?_, fun h => ?_⟩ <;> simp at h
  · have hif := h
    have hx : f[i]?.getD [] ∈ f := by simp [h]
    have hv := evL_take (y := y) h
    simp [go_sem, prt_drop hif]
    refine ⟨⟨hif, by rintro rfl; simp at hif⟩, ?_⟩
    refine CallVC.of (l13Value_c _ y hy (by omega) (hs.2 _ hx).1 (fun m hm => by rw [hl]; exact partB_mem (hf.part _ hx) hm)) (by decide) ?_
    simp [go_sem]
    refine ⟨by omega, by omega, i + 1, by omega, by omega, Off_reset _ _ _ (by simp), ?_, by omega⟩
    rw [hv]; simp [avs_snoc, Nat.min_eq_left hi]
  · simp [go_sem]
    have e : i = f.length := by omega
    subst e; simp
end Go.Proofs.YtbeekabpflaihaaGreat


namespace Go.Proofs.YtbeekabpflaihaaGreat
open Go.Abs
set_option linter.unusedSectionVars false
set_option linter.unusedVariables false
set_option linter.unusedSimpArgs false
set_option maxHeartbeats 1000000
def cmpI (x y : Int) : Int := if x < y then -1 else if y < x then 1 else 0
theorem isNaN_c [DrawK] (x : Int) : Con Tryz.prog 214 [.int x] (.bool false) := by
  refine con_of_vc Tryz.mixed ⟨3, [], [], []⟩ Tryz.func214 (by decide) rfl (by simp) (by decide) (by simp [freshOK, freshL, go_sem]) ?_
  rw [Tryz.ntmps214]
  simp [go_sem]
theorem Compare1_c [DrawK] (x y : Int) : Con Tryz.prog 171 [.int x, .int y] (.int (cmpI x y)) := by
  refine con_of_vc Tryz.mixed ⟨7, [], [], []⟩ Tryz.func171 (by decide) rfl (by simp) (by decide) (by simp [freshOK, freshL, go_sem]) ?_
  rw [Tryz.ntmps171]
  simp [go_sem]
  refine CallVC.of (isNaN_c _) (by decide) ?_
  simp [go_sem]
  refine CallVC.of (isNaN_c _) (by decide) ?_
  simp [go_sem]
  unfold cmpI
  by_cases h1 : x < y
  · simp [go_sem, h1]
  · by_cases h2 : y < x
    · simp [go_sem, h1, h2]
    · simp [go_sem, h1, h2]
def cmpL : List Int → List Int → Int
  | [], [] => 0
  | [], _ :: _ => -1
  | _ :: _, [] => 1
  | x :: xs, y :: ys => if x = y then cmpL xs ys else cmpI x y
theorem cmpI_ne {x y : Int} (h : x ≠ y) : cmpI x y ≠ 0 := by unfold cmpI; split; omega; split <;> omega
theorem cmpL_lt : ∀ a b : List Int, decide (0 ≤ cmpL a b) = !ltL a b
  | [], [] => by simp [cmpL, ltL]
  | [], _ :: _ => by simp [cmpL, ltL]
  | _ :: _, [] => by simp [cmpL, ltL]
  | x :: xs, y :: ys => by
    rw [cmpL, ltL]
    by_cases h : x = y
    · rw [if_pos h, if_pos h]; exact cmpL_lt xs ys
    · rw [if_neg h, if_neg h]
      unfold cmpI
      by_cases h1 : x < y
      · simp [h1]
      · have : y < x := by omega
        simp [h1, this]
theorem cmpL_at : ∀ {a b : List Int} {i : Nat}, i < a.length → i < b.length → a.take i = b.take i → a[i]?.getD 0 ≠ b[i]?.getD 0 → cmpL a b = cmpI (a[i]?.getD 0) (b[i]?.getD 0)
  | x :: a, y :: b, 0, _, _, _, h => by
    simp at h
    simp [cmpL, h]
  | x :: a, y :: b, i + 1, h1, h2, h3, h4 => by
    simp at h3
    simp only [cmpL, if_pos h3.1]
    simpa using cmpL_at (a := a) (b := b) (i := i) (by simpa using h1) (by simpa using h2) h3.2 (by simpa using h4)
theorem cmpL_more : ∀ {a b : List Int} {i : Nat}, i < a.length → b.length ≤ i → a.take b.length = b → cmpL a b = 1
  | x :: a, [], _, _, _, _ => by simp [cmpL]
  | x :: a, y :: b, 0, _, h, _ => by simp at h
  | x :: a, y :: b, i + 1, h1, h2, h3 => by
    simp at h3
    simp only [cmpL, if_pos h3.1]
    exact cmpL_more (a := a) (b := b) (i := i) (by simpa using h1) (by simpa using h2) h3.2
theorem cmpL_end : ∀ {a b : List Int}, a = b.take a.length → cmpL a b = if a.length < b.length then -1 else 0
  | [], [], _ => by simp [cmpL]
  | [], _ :: _, _ => by simp [cmpL]
  | x :: a, [], h => by simp at h
  | x :: a, y :: b, h => by
    simp at h
    simp only [cmpL, if_pos h.1]
    rw [cmpL_end h.2]; simp
set_option maxRecDepth 100000 in
theorem Compare_c [DrawK] (a b : List Int) (ha : a.length ≤ 9223372036854775807) (hb : b.length ≤ 9223372036854775807) : Con Tryz.prog 111 [.sl a.length (avs a), .sl b.length (avs b)] (.int (cmpL a b)) := by
  refine con_of_vc Tryz.mixed ⟨9, [], [], []⟩ Tryz.func111 (by decide) rfl (by simp) (by decide) (by simp [freshOK, freshL, go_sem]) ?_
  rw [Tryz.ntmps111]
  simp [go_sem]
  refine loop_inv (4 :: 5 :: 6 :: 7 :: 8 :: List.range' 11 20) (fun i : Nat => [(11, .int i)]) (fun i => i ≤ a.length ∧ i ≤ b.length ∧ a.take i = b.take i) (fun i => a.length - i) 0 (by simp) (by simp [go_sem]) (by simp [go_sem]) ?_
  rintro i ⟨hi, hj, he⟩
  simp [go_sem]
  refine ⟨fun h => ?_, fun h => ?_⟩ <;> simp at h
  · have h1 := h
    simp [go_sem, avs_drop h1]
    refine ⟨⟨h1, by rintro rfl; simp at h1⟩, ?_⟩
    by_cases h2 : i < b.length
    · have h2' : ¬ (b.length ≤ i) := by omega
      simp [go_sem, h2', avs_drop h2]
      refine ⟨⟨h2, by rintro rfl; simp at h2⟩, ?_⟩
      refine CallVC.of (Compare1_c _ _) (by decide) ?_
      simp [go_sem]
      by_cases hd : a[i]?.getD 0 = b[i]?.getD 0
      · have hc : cmpI (a[i]?.getD 0) (b[i]?.getD 0) = 0 := by unfold cmpI; rw [if_neg (by omega), if_neg (by omega)]
        simp [go_sem, hc]
        refine ⟨by omega, i + 1, ⟨by omega, by omega, take_ext h1 h2 he hd⟩, by omega, Off_reset _ _ _ (by simp), by omega⟩
      · have hc := cmpI_ne hd
        simp [go_sem, hc]
        rw [cmpL_at h1 h2 he hd]
    · have h2' : b.length ≤ i := by omega
      have e : i = b.length := by omega
      simp [go_sem, h2']
      rw [cmpL_more h1 h2' (by rw [← e, he, e, List.take_length])]
  · simp [go_sem]
    have e : i = a.length := by omega
    subst e
    rw [List.take_length] at he
    rw [cmpL_end he]
    by_cases h3 : a.length < b.length
    · simp [go_sem, h3]
    · simp [go_sem, h3]
theorem degL_big {xs : List Int} {s : Int} (h : 3 < s) : ¬ degL xs s ≤ 3 := by
  intro hd
  have := degL_le (by omega : 0 ≤ s) hd
  have pos : ∀ (l : List Int), (∀ x ∈ l, 0 ≤ x ∧ x ≤ 3) → 0 ≤ l.sum := by
    intro l
    induction l with
    | nil => simp
    | cons a l ih => intro h; have h1 := h a (by simp); have h2 := ih (fun x hx => h x (by simp [hx])); simp; omega
  have := pos xs this.1
  omega
set_option maxRecDepth 100000 in
theorem isMonomial_c (z : Int) (m : Mon) (hl : m.2.length ≤ 1048576) : Con Tryz.prog 110 [.agg [.int m.1, .sl m.2.length (avs m.2)], .int z] (.bool (monB z m)) := by
  refine con_of_vc Tryz.mixed ⟨8, [], [], []⟩ Tryz.func110 (by decide) rfl (by simp) (by decide) (by simp [freshOK, freshL, go_sem]) ?_
  rw [Tryz.ntmps110]
  simp [go_sem]
  refine loop_inv (4 :: 5 :: 7 :: List.range' 11 11) (fun x : Nat × Int => [(5, .int x.2), (11, .int x.1)]) (fun x => x.1 ≤ m.2.length ∧ 0 ≤ x.2 ∧ x.2 ≤ 3 * x.1 ∧ degL (m.2.drop x.1) x.2 = degL m.2 0) (fun x => m.2.length - x.1) (0, 0) (by simp) (by simp [go_sem]) (by simp [go_sem]) ?_
  rintro ⟨i, s⟩ ⟨hi, hs0, hs1, he⟩
  simp only at hi hs0 hs1 he
  simp [go_sem]
  refine ⟨fun h => ?_, fun h => ?_⟩ <;> simp at h
  · have hd : m.2.drop i = m.2[i]?.getD 0 :: m.2.drop (i + 1) := by rw [List.drop_eq_getElem_cons h]; simp [h]
    simp [go_sem, avs_drop h]
    refine ⟨⟨h, fun e => by rw [e] at h; simp at h⟩, ?_⟩
    refine CallVC.of (inRange_c _ _ _) (by decide) ?_
    by_cases hx : 0 ≤ m.2[i]?.getD 0 ∧ m.2[i]?.getD 0 ≤ 3
    · simp [go_sem, hx.1, hx.2]
      rw [hd, degL, if_neg (by omega)] at he
      refine ⟨by omega, by omega, i + 1, _, ⟨by omega, by omega, by omega, he⟩, by omega, Off_reset _ _ _ (by simp), rfl, by omega⟩
    · have hx' : (decide (0 ≤ m.2[i]?.getD 0) && decide (m.2[i]?.getD 0 ≤ 3)) = false := by simpa using hx
      have hm : monB z m = false := by
        have : ¬ degL m.2 0 ≤ 3 := by
          rw [← he, hd, degL]
          split
          · omega
          · exact degL_big (by omega)
        unfold monB; rw [decide_eq_false this]; simp
      rw [hx']
      simp [go_sem]
      rw [hm]
  · simp [go_sem]
    rw [List.drop_eq_nil_of_le h, degL] at he
    subst he
    by_cases c0 : m.1 = 0
    · simp [go_sem, c0]
      unfold monB; simp [c0]
    · simp [go_sem, c0]
      refine CallVC.of (IsNumber_c _) (by decide) ?_
      simp [go_sem]
      by_cases c1 : 0 ≤ m.1 ∧ m.1 ≤ 10006
      · simp [go_sem, c1.1, c1.2]
        refine CallVC.of (length_c _ _ (by omega)) (by decide) ?_
        simp [go_sem]
        by_cases c2 : (m.2.length : Int) = z
        · simp [go_sem, c2]
          unfold monB
          have : 1 ≤ m.1 := by omega
          simp [this, c1.2, c2]
        · simp [go_sem, c2]
          unfold monB; simp [c2]
      · have c1' : (decide (0 ≤ m.1) && decide (m.1 ≤ 10006)) = false := by simpa using c1
        rw [c1']
        simp [go_sem]
        have : ¬ (1 ≤ m.1 ∧ m.1 ≤ 10006) := by omega
        unfold monB; rw [decide_eq_false this]; simp
theorem lengthP_c (n : Nat) (cs : List AV) (hn : n ≤ 9223372036854775807) : Con Tryz.prog 109 [.sl n cs] (.int n) := by
  refine con_of_vc Tryz.mixed ⟨3, [], [], []⟩ Tryz.func109 (by decide) rfl (by simp) (by decide) (by simp [freshOK, freshL, go_sem]) ?_
  rw [Tryz.ntmps109]
  simp [go_sem]
  try omega
set_option maxRecDepth 100000 in
theorem IsField_c (z : Int) (f : List (List Mon)) (hf : Small f) : Con Tryz.prog 44 [.agg [.int z, .sl f.length (prt f)]] (.bool (fieldB z f)) := by
  have fl := hf.1
  refine con_of_vc Tryz.mixed ⟨7, [], [], []⟩ Tryz.func44 (by decide) rfl (by simp) (by decide) (by simp [freshOK, freshL, go_sem]) ?_
  rw [Tryz.ntmps44]
  simp [go_sem]
  refine ⟨by kernel_rfl, ?_⟩
  refine CallD.of (inRange_c z 1 3) (by simp [roots, rootsL]) (by decide) ?_
  simp [go_sem]
  by_cases hz : 1 ≤ z ∧ z ≤ 3
  · have cl := lengthP_c f.length (prt f) (by omega)
    by_cases hl : (f.length : Int) = z
    · have fine : fieldB z f = f.all (partB z) := by unfold fieldB; simp [hz, hl]
      simp [go_sem, hz.1, hz.2]
      refine CallD.of (cl) (by simp [roots, rootsL]) (by decide) ?_
      simp [go_sem]
      simp [go_sem, hl]
      refine ⟨by kernel_rfl, ?_⟩
      simp [go_sem]
      refine loop_inv (2 :: 4 :: 5 :: 6 :: List.range' 22 34) (fun i : Nat => [(22, .int i)]) (fun i => i ≤ f.length ∧ ∀ p ∈ f.take i, partB z p = true) (fun i => f.length - i) 0 (by simp) (by simp [go_sem]) (by simp [go_sem]) ?_
      rintro i ⟨hi, hp⟩
      simp [go_sem]
      refine ⟨fun h => ?_, fun h => ?_⟩ <;> simp at h
      · have hif := h
        have hx : f[i]?.getD [] ∈ f := by simp [h]
        obtain ⟨hm1, hm2⟩ := hf.2 _ hx
        simp [go_sem, prt_drop hif]
        refine ⟨⟨hif, by rintro rfl; simp at hif⟩, ?_⟩
        generalize hP : f[i]?.getD [] = P at *
        refine loop_inv (2 :: 5 :: 6 :: List.range' 28 27) (fun j : Nat => [(28, .int j)]) (fun j => j ≤ P.length ∧ ∀ k, k < j → atB z P k = true) (fun j => P.length - j) 0 (by simp) (by simp [go_sem]) (by simp [go_sem]) ?_
        rintro j ⟨hj, hq⟩
        simp [go_sem]
        refine ⟨fun h => ?_, fun h => ?_⟩ <;> simp at h
        · have hy : P[j]?.getD (0, []) ∈ P := by simp [h]
          have hm := hm2 _ hy
          have hno : atB z P j = false → fieldB z f = false := fun hh => fieldB_no hif (by rw [hP]; exact partB_no h hh)
          simp [go_sem, mons_drop h]
          refine ⟨⟨h, by rintro rfl; simp at h⟩, by kernel_rfl, ?_⟩
          generalize hM : P[j]?.getD (0, []) = m at *
          have cM := isMonomial_c z m hm
          generalize hmb : monB z m = mb at *
          refine CallD.of (cM) (by simp [roots, rootsL]) (by decide) ?_
          simp [go_sem]
          cases mb with
          | false =>
            simp [go_sem]
            refine ⟨by kernel_rfl, ?_⟩
            simp [go_sem]
            rw [hno (by unfold atB; rw [hM, hmb]; rfl)]
          | true =>
            by_cases j0 : 0 < j
            · have hk : j - 1 < P.length := by omega
              have ek : (j : Int) - 1 = ((j - 1 : Nat) : Int) := by omega
              have hyk : P[j - 1]?.getD (0, []) ∈ P := by simp [hk]
              have hmk := hm2 _ hyk
              have cC := Compare_c (P[j - 1]?.getD (0, [])).2 m.2 (by omega) (by omega)
              have hat : atB z P j = ltL (P[j - 1]?.getD (0, [])).2 m.2 := by unfold atB; rw [hM, hmb, decide_eq_false (by omega : ¬ j = 0)]; simp
              have hlt := cmpL_lt (P[j - 1]?.getD (0, [])).2 m.2
              simp [go_sem, j0, ek, mons_drop hk]
              refine ⟨by omega, ⟨hk, by rintro rfl; simp at h⟩, ?_⟩
              generalize (P[j - 1]?.getD (0, [])).2 = pw0 at *
              generalize hc : cmpL pw0 m.2 = c at *
              refine CallD.of (cC) (by simp [roots, rootsL]) (by decide) ?_
              simp [go_sem]
              cases hL : ltL pw0 m.2 with
              | false =>
                rw [hL] at hlt hat
                have hc0 : 0 ≤ c := by simpa using hlt
                simp [go_sem, hc0]
                refine ⟨by kernel_rfl, ?_⟩
                simp [go_sem]
                rw [hno hat]
              | true =>
                rw [hL] at hlt hat
                have hc0 : ¬ 0 ≤ c := by simpa using hlt
                simp [go_sem, hc0]
                refine ⟨by kernel_rfl, ?_⟩
                simp [go_sem]
                refine ⟨by omega, j + 1, ⟨by omega, fun k hk2 => ?_⟩, by omega, Off_reset _ _ _ (by simp), by omega⟩
                by_cases e : k = j
                · rw [e]; exact hat
                · exact hq k (by omega)
            · simp [go_sem, j0]
              refine ⟨by kernel_rfl, ?_⟩
              simp [go_sem]
              have hat : atB z P j = true := by unfold atB; rw [hM, hmb, decide_eq_true (by omega : j = 0)]; rfl
              refine ⟨by omega, j + 1, ⟨by omega, fun k hk2 => ?_⟩, by omega, Off_reset _ _ _ (by simp), by omega⟩
              by_cases e : k = j
              · rw [e]; exact hat
              · exact hq k (by omega)
        · simp [go_sem]
          have hpb : partB z P = true := partB_yes (fun k hk => hq k (by omega))
          refine ⟨by omega, i + 1, ⟨by omega, take_all hif hp (by rw [← hP] at hpb; simpa [hif] using hpb)⟩, by omega, (Off.reset (by intro x hx; simp at hx ⊢; omega) (by simp) (by simp [go_sem, Off_reset])), by omega⟩
      · simp [go_sem]
        rw [List.take_of_length_le h] at hp
        rw [fine, List.all_eq_true.2 hp]
    · simp [go_sem, hz.1, hz.2]
      refine CallD.of (cl) (by simp [roots, rootsL]) (by decide) ?_
      simp [go_sem]
      simp [go_sem, hl]
      refine ⟨by kernel_rfl, ?_⟩
      simp [go_sem]
      unfold fieldB; simp [hl]
  · by_cases z1 : 1 ≤ z
    · have z3 : ¬ z ≤ 3 := fun h => hz ⟨z1, h⟩
      simp [go_sem, z1, z3]
      refine ⟨by kernel_rfl, ?_⟩
      simp [go_sem]
      unfold fieldB; rw [decide_eq_false hz]; simp
    · simp [go_sem, z1]
      refine ⟨by kernel_rfl, ?_⟩
      simp [go_sem]
      unfold fieldB; rw [decide_eq_false hz]; simp
def vecB (z : Int) (y : List Int) : Bool := decide ((y.length : Int) = z) && numsB y
theorem isVector_c (z : Int) (n : Nat) (cs : List AV) (y : List Int) (hl : y.length ≤ 9223372036854775807) :
    Con Tryz.prog 46 [.agg [.int z, .sl n cs], .sl y.length (avs y)] (.bool (vecB z y)) := by
  refine con_of_vc Tryz.mixed ⟨5, [], [], []⟩ Tryz.func46 (by decide) rfl (by simp) (by decide) (by simp [freshOK, freshL, go_sem]) ?_
  rw [Tryz.ntmps46]
  simp [go_sem]
  refine ⟨by kernel_rfl, ?_⟩
  refine CallD.of (length_c _ _ hl) (by simp [roots, rootsL]) (by decide) ?_
  simp [go_sem]
  unfold vecB
  by_cases h : (y.length : Int) = z
  · simp [go_sem, h]
    refine CallD.of (areNumbers_c y hl) (by simp [roots, rootsL]) (by decide) ?_
    simp [go_sem]
    refine ⟨by kernel_rfl, ?_⟩
    simp [go_sem]
  · simp [go_sem, h]
    refine ⟨by kernel_rfl, ?_⟩
    simp [go_sem]
theorem IndexFuncV_c (g : FuncId) (cs : List AV) (p : List Int → Bool) (xss : List (List Int)) (hl : xss.length ≤ 9223372036854775807) (hg : ∀ x ∈ xss, Con Tryz.prog g [.sl x.length (avs x), .fptr cs] (.bool (p x))) :
    Con Tryz.prog 186 [.sl xss.length (mat xss), .fn g [.fptr cs]] (.int (idxF p xss)) := by
  refine con_of_vc Tryz.mixed ⟨6, [], [], []⟩ Tryz.func186 (by decide) rfl (by simp) (by decide) (by simp [freshOK, freshL, go_sem]) ?_
  rw [Tryz.ntmps186]
  simp [go_sem]
  refine loop_inv (5 :: List.range' 8 20) (fun i : Nat => [(8, .int i)]) (fun i => i ≤ xss.length ∧ ∀ x ∈ xss.take i, p x = false) (fun i => xss.length - i) 0 (by simp) (by simp [go_sem]) (by simp [go_sem]) ?_
  rintro i ⟨hi, hf⟩
  simp [go_sem]
  have sk := idxF_skip p xss i hf hi
  refine ⟨fun h => ?_, fun h => ?_⟩ <;> simp at h
  · have hx : xss[i]?.getD [] ∈ xss := by simp [h]
    have hd : xss.drop i = xss[i]?.getD [] :: xss.drop (i + 1) := by rw [List.drop_eq_getElem_cons h]; simp [h]
    simp [go_sem, mat_drop h]
    refine ⟨⟨h, by rintro rfl; simp at h⟩, CallVC.of (hg _ hx) (by decide) ?_⟩
    simp [go_sem]
    refine ⟨fun h2 => ?_, fun h2 => ?_⟩ <;> simp [go_sem]
    · rw [sk, hd]; simp [idxF, h2]
    · refine ⟨by omega, i + 1, ⟨by omega, ?_⟩, by omega, Off_reset _ _ _ (by simp), by omega⟩
      intro x hx2
      rw [List.take_add_one, List.getElem?_eq_getElem h, Option.toList_some, List.mem_append, List.mem_singleton] at hx2
      rcases hx2 with hx2 | hx2
      · exact hf x hx2
      · rw [hx2]; simpa [h] using h2
  · simp [go_sem]
    rw [sk, List.drop_eq_nil_of_le h]; simp [idxF]
theorem ContainsFuncV_c (g : FuncId) (cs : List AV) (p : List Int → Bool) (xss : List (List Int)) (hl : xss.length ≤ 9223372036854775807) (hg : ∀ x ∈ xss, Con Tryz.prog g [.sl x.length (avs x), .fptr cs] (.bool (p x))) :
    Con Tryz.prog 134 [.sl xss.length (mat xss), .fn g [.fptr cs]] (.bool (xss.any p)) := by
  refine con_of_vc Tryz.mixed ⟨5, [], [], []⟩ Tryz.func134 (by decide) rfl (by simp) (by decide) (by simp [freshOK, freshL, go_sem]) ?_
  rw [Tryz.ntmps134]
  simp [go_sem]
  refine CallVC.of (IndexFuncV_c g cs p xss hl hg) (by decide) ?_
  simp [go_sem]
  simp [idxF_any]
end Go.Proofs.YtbeekabpflaihaaGreat


namespace Go.Proofs.YtbeekabpflaihaaGreat
open Go.Abs
set_option linter.unusedSectionVars false
set_option linter.unusedVariables false
set_option linter.unusedSimpArgs false
set_option maxHeartbeats 1000000
def keyOf (e : List Int) : Key := (e[0]?.getD 0, e[1]?.getD 0, e[2]?.getD 0)
def polG (c : Key → Option Int) : List Mon → Key → Option Int
  | [] => c
  | m :: p => polG (mset c (keyOf m.2) m.1) p
def polF (p : List Mon) : Key → Option Int := polG mzero p
theorem polG_app (c : Key → Option Int) (p q : List Mon) : polG c (p ++ q) = polG (polG c p) q := by
  induction p generalizing c with
  | nil => rfl
  | cons m p ih => exact ih _
theorem polF_take {p : List Mon} {i : Nat} (h : i < p.length) : polF (p.take (i + 1)) = mset (polF (p.take i)) (keyOf (p[i]?.getD (0, [])).2) (p[i]?.getD (0, [])).1 := by
  rw [List.take_add_one, List.getElem?_eq_getElem h, polF, polG_app]; rfl
set_option maxRecDepth 100000 in
theorem polynomialOf_c (p : List Mon) (hp : p.length ≤ 1048576) (hm : ∀ m ∈ p, m.2.length ≤ 3) :
    Con Tryz.prog 113 [.sl p.length (mons p)] (.mp (polF p)) := by
  refine con_of_vc Tryz.mixed ⟨7, [], [], []⟩ Tryz.func113 (by decide) rfl (by simp) (by decide) (by simp [freshOK, freshL, go_sem]) ?_
  rw [Tryz.ntmps113]
  simp [go_sem]
  refine loop_inv (3 :: 5 :: 6 :: List.range' 10 14) (fun i : Nat => [(3, .mp (polF (p.take i))), (10, .int i)]) (fun i => i ≤ p.length) (fun i => p.length - i) 0 (by simp) (by simp [go_sem, polF, polG]) (by simp [go_sem]) ?_
  intro i hi
  simp [go_sem]
  refine ⟨fun h => ?_, fun h => ?_⟩ <;> simp at h
  · have hif := h
    have hx : p[i]?.getD (0, []) ∈ p := by simp [h]
    have hl := hm _ hx
    have hv := polF_take h
    simp [go_sem, mons_drop hif]
    generalize p[i]?.getD (0, []) = m at *
    obtain ⟨x, e⟩ := m
    simp only at hl hv
    refine ⟨⟨hif, by rintro rfl; simp at hif⟩, by kernel_rfl, ⟨by omega, by omega⟩, ?_⟩
    refine ⟨by kernel_rfl, ?_⟩
    simp [go_sem]
    rcases e with _ | ⟨a, _ | ⟨b, _ | ⟨c, _ | ⟨d, e⟩⟩⟩⟩
    · simp [go_sem, avs]
      refine ⟨by omega, i + 1, by omega, by omega, Off_reset _ _ _ (by simp), hv.symm, by omega⟩
    · simp [go_sem, avs]
      refine ⟨by omega, i + 1, by omega, by omega, Off_reset _ _ _ (by simp), hv.symm, by omega⟩
    · simp [go_sem, avs]
      refine ⟨by omega, i + 1, by omega, by omega, Off_reset _ _ _ (by simp), hv.symm, by omega⟩
    · simp [go_sem, avs]
      refine ⟨by omega, i + 1, by omega, by omega, Off_reset _ _ _ (by simp), hv.symm, by omega⟩
    · simp at hl
  · simp [go_sem]
    rw [List.take_of_length_le h]
def pols (f : List (List Mon)) : List AV := f.map fun p => .mp (polF p)
def fpols (f : List (List Mon)) : List AV := f.map fun p => .fmp (polF p)
@[simp] theorem pols_len (f : List (List Mon)) : (pols f).length = f.length := by simp [pols]
@[simp] theorem fpols_len (f : List (List Mon)) : (fpols f).length = f.length := by simp [fpols]
@[simp] theorem fpols_ne {f : List (List Mon)} : (fpols f = []) = (f = []) := by cases f <;> simp [fpols]
@[simp] theorem pols_frz : ∀ f : List (List Mon), frzL (pols f) = fpols f
  | [] => rfl
  | p :: f => by have := pols_frz f; simp only [pols, fpols, List.map_cons, frzL] at this ⊢; rw [this]; simp [frz]
@[simp] theorem pols_fresh : ∀ f : List (List Mon), freshL (pols f) = true
  | [] => rfl
  | p :: f => by have := pols_fresh f; simp only [pols, List.map_cons, freshL] at this ⊢; rw [this]; simp [freshOK]
theorem fpols_drop {f : List (List Mon)} {k : Nat} (h : k < f.length) : (fpols f).drop k = .fmp (polF (f[k]?.getD [])) :: fpols (f.drop (k + 1)) := by
  rw [fpols, ← List.map_drop, List.drop_eq_getElem_cons h, List.map_cons]; simp [h, fpols]
theorem polynomials_c (z : Int) (f : List (List Mon)) (hf : FieldOk z f) (hs : Small f) :
    Con Tryz.prog 48 [.agg [.int z, .sl f.length (prt f)]] (.own 95 f.length (pols f)) := by
  have fl := hs.1
  have z3 := hf.hi
  have zl := hf.len
  refine con_of_vc Tryz.mixed ⟨6, [], [], []⟩ Tryz.func48 (by decide) rfl (by simp) (by decide) (by simp [freshOK, freshL, go_sem]) ?_
  rw [Tryz.ntmps48]
  simp [go_sem]
  refine loop_inv (3 :: 5 :: List.range' 10 10) (fun i : Nat => [(3, .own 95 i (pols (f.take i))), (10, .int i)]) (fun i => i ≤ f.length) (fun i => f.length - i) 0 (by simp) (by simp [go_sem, pols]) (by simp [go_sem]) ?_
  intro i hi
  simp [go_sem]
  refine ⟨fun h => ?_, fun h => ?_⟩ <;> simp at h
  · have hif := h
    have hx : f[i]?.getD [] ∈ f := by simp [h]
    have hm := hs.2 _ hx
    simp [go_sem, prt_drop hif]
    refine ⟨⟨hif, by rintro rfl; simp at hif⟩, ?_⟩
    refine CallVC.of (polynomialOf_c _ hm.1 (fun m hm => by have := (partB_mem (hf.part _ hx) hm).len; omega)) (by decide) ?_
    simp [go_sem]
    have e1 : f.take (i + 1) = f.take i ++ [f[i]?.getD []] := by rw [List.take_add_one]; simp [hif]
    refine ⟨⟨by omega, by omega, by omega⟩, by omega, i + 1, by omega, by omega, Off_reset _ _ _ (by simp), ⟨rfl, ?_⟩, by omega⟩
    rw [e1]; simp [pols]
  · simp [go_sem]
    rw [List.take_of_length_le h]
    exact ⟨by omega, rfl⟩
def tmK (y : List Int) (k : Key) (x : Int) : Int := tmF y [k.1, k.2.1, k.2.2] x y.length
def rest (y : List Int) : List (Key × Int) → Int
  | [] => 0
  | e :: es => tmK y e.1 e.2 + rest y es
theorem rest_app (y : List Int) (a b : List (Key × Int)) : rest y (a ++ b) = rest y a + rest y b := by
  induction a with
  | nil => simp [rest]
  | cons e a ih => simp [rest, ih]; omega
theorem rest_pos (y : List Int) : ∀ {es : List (Key × Int)}, (∀ e ∈ es, isN e.2) → 0 ≤ rest y es
  | [], _ => by simp [rest]
  | e :: es, h => by
    have h1 := rest_pos y (es := es) (fun a ha => h a (by simp [ha]))
    have h2 := (tmF_N (y := y) (e := [e.1.1, e.1.2.1, e.1.2.2]) (h e (by simp)) y.length).1
    simp only [rest, tmK]; omega
def EOk (e : Key × Int) : Prop := isN e.2 ∧ 0 ≤ e.1.1 ∧ e.1.1 ≤ 1000 ∧ 0 ≤ e.1.2.1 ∧ e.1.2.1 ≤ 1000 ∧ 0 ≤ e.1.2.2 ∧ e.1.2.2 ≤ 1000
set_option maxRecDepth 100000 in
theorem value_c (c : Key → Option Int) (y : List Int) (T : Int) (hy : Ns y) (hl : y.length ≤ 3) (hc : ∀ k x, c k = some x → EOk (k, x)) (hT : T ≤ 1000000000000000000) (hE : ∀ es, Enum c es → rest y es = T) :
    Con Tryz.prog 179 [.fmp c, .sl y.length (avs y)] (.int (T % 10007)) := by
  refine con_of_vc Tryz.mixed ⟨10, [], [], []⟩ Tryz.func179 (by decide) rfl (by simp) (by decide) (by simp [freshOK, freshL, go_sem]) ?_
  rw [Tryz.ntmps179]
  simp [go_sem]
  intro es hes
  have hok : ∀ e ∈ es, EOk e := fun e he => hc e.1 e.2 (hes.val e he)
  have hsum := hE es hes
  refine loop_inv (5 :: 6 :: 7 :: 8 :: 9 :: 11 :: List.range' 12 24) (fun x : Int × Option (Key × Int) × List (Key × Int) => [(5, .int x.1), (11, .it x.2.1 x.2.2)]) (fun x => 0 ≤ x.1 ∧ x.1 + rest y x.2.2 = T ∧ ∀ e ∈ x.2.2, EOk e) (fun x => x.2.2.length) (0, none, es) ⟨by simp, by simpa using hsum, hok⟩ (by simp [go_sem]) (by simp [go_sem]) ?_
  rintro ⟨s, l, rem⟩ ⟨hs0, hsT, hrem⟩
  simp only at hs0 hsT hrem
  simp [go_sem, keyAV]
  refine ⟨fun hr => ?_, fun l1 k0 k1 k2 x l2 hr => ?_⟩
  · subst hr
    have : s = T := by simpa [rest] using hsT
    subst this
    refine CallVC.of (num_c _ (by omega) (by omega)) (by decide) ?_
    simp [go_sem]
  · subst hr
    have hek := hrem ((k0, k1, k2), x) (by simp)
    have hx : isN x := hek.1
    have hg : ∀ i : Nat, 0 ≤ ([k0, k1, k2] : List Int)[i]?.getD 0 ∧ ([k0, k1, k2] : List Int)[i]?.getD 0 ≤ 1000 := by
      intro i
      obtain ⟨_, a1, a2, a3, a4, a5, a6⟩ := hek
      match i with
      | 0 => exact ⟨a1, a2⟩
      | 1 => exact ⟨a3, a4⟩
      | 2 => exact ⟨a5, a6⟩
      | i + 3 => simp
    refine loop_inv (7 :: 8 :: 9 :: List.range' 19 14) (fun i : Nat => [(7, .int (tmF y [k0, k1, k2] x i)), (19, .int i)]) (fun i => i ≤ y.length) (fun i => y.length - i) 0 (by simp) (by simp [go_sem, tmF]) (by simp [go_sem]) ?_
    intro i hi
    simp [go_sem]
    refine ⟨fun h => ?_, fun h => ?_⟩ <;> simp at h
    · have h3 : i < ([k0, k1, k2] : List Int).length := by simp; omega
      have e3 : ([.val (.int .i64 k0), .val (.int .i64 k1), .val (.int .i64 k2)] : List AV)[i]? = some (.val (.int .i64 (([k0, k1, k2] : List Int)[i]?.getD 0))) := avs_at' (xs := [k0, k1, k2]) h3
      have g := hg i
      have m1 := mul_fits (tmF_N (y := y) (e := [k0, k1, k2]) hx i) (isN_mod ((y[i]?.getD 0) ^ (([k0, k1, k2] : List Int)[i]?.getD 0).toNat))
      have m2 : fits (tmF y [k0, k1, k2] x i * pw (y[i]?.getD 0) (([k0, k1, k2] : List Int)[i]?.getD 0)) := m1
      have hs : tmF y [k0, k1, k2] x (i + 1) = tmF y [k0, k1, k2] x i * pw (y[i]?.getD 0) (([k0, k1, k2] : List Int)[i]?.getD 0) % 10007 := rfl
      simp [go_sem, avs_drop h, e3]
      generalize ([k0, k1, k2] : List Int)[i]?.getD 0 = ki at *
      refine ⟨⟨h, by rintro rfl; simp at h⟩, by omega, ?_⟩
      refine CallVC.of (pow_c _ _ (hy.get i) g.1 (by omega)) (by decide) ?_
      simp [go_sem]
      refine ⟨m2, ?_⟩
      refine CallVC.of (num_c _ m2.1 m2.2) (by decide) ?_
      simp [go_sem]
      refine ⟨by omega, i + 1, by omega, by omega, Off_reset _ _ _ (by simp), hs.symm, by omega⟩
    · have e : i = y.length := by omega
      subst e
      have hr0 : 0 ≤ rest y (l1 ++ l2) := rest_pos y (fun e he => (hrem e (by
        rcases List.mem_append.1 he with he | he <;> simp [he])).1)
      have ht := tmF_N (y := y) (e := [k0, k1, k2]) hx y.length
      have hsT2 : s + tmF y [k0, k1, k2] x y.length + rest y (l1 ++ l2) = T := by
        rw [← hsT, rest_app, rest_app, rest]
        show _ = s + (rest y l1 + (tmF y [k0, k1, k2] x y.length + rest y l2))
        omega
      have ht1 := ht.1
      simp [go_sem]
      refine ⟨⟨by omega, by omega⟩, _, _, _, ⟨?_, hsT2, fun a b c d he => hrem _ ?_⟩, ?_, (Off.reset (by intro x hx; simp at hx ⊢; omega) (by simp) (by simp [go_sem, Off_reset])), rfl, rfl, rfl⟩
      · omega
      · rcases List.mem_append.1 he with he | he <;> simp [he]
      · simp
end Go.Proofs.YtbeekabpflaihaaGreat


namespace Go.Proofs.YtbeekabpflaihaaGreat
open Go.Abs
set_option linter.unusedSectionVars false
set_option linter.unusedVariables false
set_option linter.unusedSimpArgs false
set_option maxHeartbeats 1000000
theorem ltL_irr : ∀ a : List Int, ltL a a = false
  | [] => rfl
  | x :: a => by simp [ltL, ltL_irr a]
theorem ltL_trans : ∀ {a b c : List Int}, ltL a b = true → ltL b c = true → ltL a c = true
  | _, [], _, h, _ => by simp [ltL] at h
  | _, _ :: _, [], _, h => by simp [ltL] at h
  | [], _ :: _, _ :: _, _, _ => rfl
  | x :: a, y :: b, z :: c, h1, h2 => by
    simp only [ltL] at h1 h2 ⊢
    split at h1
    · rename_i e; subst e
      split at h2
      · rename_i e; subst e; rw [if_pos rfl]; exact ltL_trans h1 h2
      · rename_i e; rw [if_neg e]; exact h2
    · rename_i e1
      simp only [decide_eq_true_eq] at h1
      split at h2
      · rename_i e; subst e; rw [if_neg e1]; simpa using h1
      · rename_i e
        simp only [decide_eq_true_eq] at h2
        rw [if_neg (by omega)]; simp; omega
theorem chain_lt {z : Int} {p : List Mon} (h : partB z p = true) {i : Nat} : ∀ {j : Nat}, i < j → j < p.length → ltL (p[i]?.getD (0, [])).2 (p[j]?.getD (0, [])).2 = true
  | 0, h1, _ => by omega
  | j + 1, h1, h2 => by
    have hs := (partB_at h h2).2 (by omega)
    rw [Nat.add_sub_cancel] at hs
    rcases Nat.lt_or_ge i j with hl | hg
    · exact ltL_trans (chain_lt h hl (by omega)) hs
    · have : i = j := by omega
      subst this; exact hs
theorem keyOf_inj {a b : List Int} (hl : a.length = b.length) (h3 : a.length ≤ 3) (h : keyOf a = keyOf b) : a = b := by
  match a, b, hl, h3 with
  | [], [], _, _ => rfl
  | [x], [y], _, _ => simp [keyOf] at h; rw [h]
  | [x, x'], [y, y'], _, _ => simp [keyOf] at h; rw [h.1, h.2]
  | [x, x', x''], [y, y', y''], _, _ => simp [keyOf] at h; rw [h.1, h.2.1, h.2.2]
def keyM (m : Mon) : Key × Int := (keyOf m.2, m.1)
theorem keys_nd {z : Int} {p : List Mon} (hz : z ≤ 3) (h : partB z p = true) : p.Pairwise (fun a b => keyOf a.2 ≠ keyOf b.2) := by
  rw [List.pairwise_iff_getElem]
  intro i j hi hj hij he
  have hl := chain_lt h hij hj
  have m1 := (partB_at h hi).1.len
  have m2 := (partB_at h hj).1.len
  simp only [List.getElem?_eq_getElem hi, List.getElem?_eq_getElem hj, Option.getD_some] at hl m1 m2
  have := keyOf_inj (by omega) (by omega) he
  rw [this, ltL_irr] at hl
  simp at hl
theorem polG_out : ∀ (p : List Mon) (c : Key → Option Int) (k : Key), (∀ m ∈ p, keyOf m.2 ≠ k) → polG c p k = c k
  | [], c, k, _ => rfl
  | m :: p, c, k, h => by
    rw [polG, polG_out p _ k (fun a ha => h a (by simp [ha]))]
    have := h m (by simp)
    simp [mset, Ne.symm this]
theorem polG_in : ∀ (p : List Mon) (c : Key → Option Int), p.Pairwise (fun a b => keyOf a.2 ≠ keyOf b.2) → ∀ m ∈ p, polG c p (keyOf m.2) = some m.1
  | [], _, _, m, hm => by simp at hm
  | a :: p, c, h, m, hm => by
    obtain ⟨h1, h2⟩ := List.pairwise_cons.1 h
    rw [polG]
    rcases List.mem_cons.1 hm with rfl | hm
    · rw [polG_out p _ _ (fun b hb => Ne.symm (h1 b hb))]; simp [mset]
    · exact polG_in p _ h2 m hm
theorem polF_some {p : List Mon} (h : p.Pairwise (fun a b => keyOf a.2 ≠ keyOf b.2)) {k : Key} {x : Int} : polF p k = some x ↔ (k, x) ∈ p.map keyM := by
  constructor
  · intro hk
    by_cases hin : ∃ m ∈ p, keyOf m.2 = k
    · obtain ⟨m, hm, rfl⟩ := hin
      rw [polF, polG_in p _ h m hm] at hk
      injection hk with hk; subst hk
      exact List.mem_map.2 ⟨m, hm, rfl⟩
    · rw [polF, polG_out p _ k (fun m hm he => hin ⟨m, hm, he⟩)] at hk
      simp [mzero] at hk
  · intro hm
    obtain ⟨m, hm, he⟩ := List.mem_map.1 hm
    simp only [keyM, Prod.mk.injEq] at he
    rw [← he.1, ← he.2]
    exact polG_in p _ h m hm
theorem rest_perm (y : List Int) {a b : List (Key × Int)} (h : a.Perm b) : rest y a = rest y b := by
  induction h with
  | nil => rfl
  | cons x _ ih => simp [rest, ih]
  | swap x z l => simp [rest]; omega
  | trans _ _ i1 i2 => rw [i1, i2]
theorem nodup_of_key {α β : Type} {f : α → β} {l : List α} (h : l.Pairwise (fun a b => f a ≠ f b)) : l.Nodup := h.imp (fun hn e => hn (by rw [e]))
theorem enum_perm {p : List Mon} (h : p.Pairwise (fun a b => keyOf a.2 ≠ keyOf b.2)) {es : List (Key × Int)} (he : Enum (polF p) es) : es.Perm (p.map keyM) := by
  refine (List.perm_ext_iff_of_nodup (nodup_of_key (f := Prod.fst) he.nd) ?_).2 (fun e => ?_)
  · rw [List.Nodup, List.pairwise_map]
    exact h.imp (fun hn e => hn (congrArg Prod.fst e))
  · obtain ⟨k, x⟩ := e
    rw [← polF_some h]
    constructor
    · intro hm; exact he.val _ hm
    · intro hk
      by_cases hin : ∃ q ∈ es, q.1 = k
      · obtain ⟨⟨k', x'⟩, hq, hqk⟩ := hin
        simp only at hqk; subst hqk
        have := he.val _ hq
        simp only at this
        rw [hk] at this
        injection this with this; subst this
        exact hq
      · have := he.out k (fun q hq e => hin ⟨q, hq, e⟩)
        rw [hk] at this; simp at this
theorem tmF_congr {y e e' : List Int} {x : Int} : ∀ {n : Nat}, (∀ i, i < n → e[i]?.getD 0 = e'[i]?.getD 0) → tmF y e x n = tmF y e' x n
  | 0, _ => rfl
  | n + 1, h => by rw [tmF, tmF, tmF_congr (fun i hi => h i (by omega)), h n (by omega)]
theorem tmK_of {y : List Int} (hl : y.length ≤ 3) (m : Mon) : tmK y (keyOf m.2) m.1 = tmF y m.2 m.1 y.length := by
  refine tmF_congr (fun i hi => ?_)
  have : i = 0 ∨ i = 1 ∨ i = 2 := by omega
  rcases this with rfl | rfl | rfl <;> simp [keyOf]
theorem rest_map {y : List Int} (hl : y.length ≤ 3) : ∀ p : List Mon, rest y (p.map keyM) = vsum y p
  | [] => rfl
  | m :: p => by
    rw [List.map_cons, rest, vsum, rest_map hl p]
    show tmK y (keyOf m.2) m.1 + vsum y p = _
    rw [tmK_of hl]
theorem vsum_le (y : List Int) : ∀ p : List Mon, (∀ m ∈ p, isN m.1) → vsum y p ≤ 10006 * p.length
  | [], _ => by simp [vsum]
  | m :: p, h => by
    have h1 := vsum_le y p (fun a ha => h a (by simp [ha]))
    have h2 := (tmF_N (y := y) (e := m.2) (h m (by simp)) y.length).2
    simp only [vsum, List.length_cons]; omega
theorem part_entries {z : Int} {p : List Mon} (hz : z ≤ 3) (h : partB z p = true) {k : Key} {x : Int} (hk : polF p k = some x) : EOk (k, x) := by
  obtain ⟨m, hm, he⟩ := List.mem_map.1 ((polF_some (keys_nd hz h)).1 hk)
  simp only [keyM, Prod.mk.injEq] at he
  obtain ⟨rfl, rfl⟩ := he
  have ho := partB_mem h hm
  have g0 := ho.get 0
  have g1 := ho.get 1
  have g2 := ho.get 2
  have l1 := ho.lo
  have l2 := ho.hi
  unfold EOk isN keyOf
  simp only
  refine ⟨⟨by omega, by omega⟩, by omega, by omega, by omega, by omega, by omega, by omega⟩
end Go.Proofs.YtbeekabpflaihaaGreat


namespace Go.Proofs.YtbeekabpflaihaaGreat
open Go.Abs
set_option linter.unusedSectionVars false
set_option linter.unusedVariables false
set_option linter.unusedSimpArgs false
set_option maxHeartbeats 1000000
theorem enum_mem {c : Key → Option Int} {es : List (Key × Int)} (he : Enum c es) {k : Key} {x : Int} : (k, x) ∈ es ↔ c k = some x := by
  constructor
  · intro hm; exact he.val _ hm
  · intro hk
    by_cases hin : ∃ q ∈ es, q.1 = k
    · obtain ⟨⟨k', x'⟩, hq, hqk⟩ := hin
      simp only at hqk; subst hqk
      have := he.val _ hq
      simp only at this
      rw [hk] at this
      injection this with this; subst this
      exact hq
    · have := he.out k (fun q hq e => hin ⟨q, hq, e⟩)
      rw [hk] at this; simp at this
def yat (y : List Int) (i : Nat) : Int := y[i]?.getD 0
theorem coef_enum {c : Key → Option Int} {es : List (Key × Int)} (he : Enum c es) (k : Key) : coef Prod.fst Prod.snd es k = (c k).getD 0 := by
  have gen : ∀ (l : List (Key × Int)), l.Pairwise (fun a b => a.1 ≠ b.1) → ∀ x, (k, x) ∈ l → coef Prod.fst Prod.snd l k = x := by
    intro l
    induction l with
    | nil => intro _ x hx; simp at hx
    | cons a l ih =>
      intro hp x hx
      obtain ⟨h1, h2⟩ := List.pairwise_cons.1 hp
      unfold coef at ih ⊢
      simp only [sumI]
      rcases List.mem_cons.1 hx with rfl | hx
      · rw [if_pos rfl, sumI_zero (fun b hb => if_neg (h1 b hb))]; simp
      · rw [if_neg (fun e => h1 _ hx e.symm), ih h2 x hx]; simp
  cases hc : c k with
  | some x => exact gen es he.nd x ((enum_mem he).2 hc)
  | none =>
    unfold coef
    refine sumI_zero (fun e hm => if_neg (fun e1 => ?_))
    have := he.val e hm
    rw [← e1, hc] at this
    simp at this
def gv (c : Key → Option Int) (k : Key) : Int := (c k).getD 0
end Go.Proofs.YtbeekabpflaihaaGreat


namespace Go.Proofs.YtbeekabpflaihaaGreat
open Go.Abs
set_option linter.unusedSectionVars false
set_option linter.unusedVariables false
set_option linter.unusedSimpArgs false
set_option maxHeartbeats 1000000
structure VOk (n : Nat) (m : Mon) : Prop where
  num : isN m.1
  len : m.2.length = n
  pw : ∀ x ∈ m.2, 0 ≤ x ∧ x ≤ 3
def cfL (L : List Mon) : Key → Int := coef (fun m : Mon => keyOf m.2) (fun m => m.1) L
def putGo (c : Int) (e : List Int) : List Mon → Bool → List Mon
  | [], done => if done then [] else [(c, e)]
  | m :: l, done =>
    if done = false ∧ m.2 = e then (if (m.1 + c) % 10007 = 0 then [] else [((m.1 + c) % 10007, m.2)]) ++ putGo c e l true
    else if done = false ∧ ltL e m.2 = true then (c, e) :: ((if m.1 = 0 then [] else [m]) ++ putGo c e l true)
    else (if m.1 = 0 then [] else [m]) ++ putGo c e l done
def putL (L : List Mon) (c : Int) (e : List Int) : List Mon := putGo c e L (decide (c = 0))
theorem cfL_app (a b : List Mon) (k : Key) : cfL (a ++ b) k = cfL a k + cfL b k := sumI_app _ a b
theorem cfL_cons (m : Mon) (b : List Mon) (k : Key) : cfL (m :: b) k = (if k = keyOf m.2 then m.1 else 0) + cfL b k := rfl
theorem cfL_if (m : Mon) (k : Key) : cfL (if m.1 = 0 then [] else [m]) k = if k = keyOf m.2 then m.1 else 0 := by
  split
  · rename_i h; simp [cfL, coef, sumI, h]
  · simp [cfL, coef, sumI]
theorem putGo_cf (c : Int) (e : List Int) (k : Key) : ∀ (l : List Mon) (done : Bool), cfL (putGo c e l done) k % 10007 = (cfL l k + if done = true then 0 else if k = keyOf e then c else 0) % 10007
  | [], true => by simp [putGo, cfL, coef, sumI]
  | [], false => by simp [putGo, cfL, coef, sumI]
  | m :: l, done => by
    rw [putGo, cfL_cons]
    by_cases h1 : done = false ∧ m.2 = e
    · rw [if_pos h1, cfL_app, h1.1, ← h1.2]
      have := cfL_if ((m.1 + c) % 10007, m.2) k
      simp only at this
      rw [this, Int.add_emod, putGo_cf c m.2 k l true]
      by_cases hk : k = keyOf m.2
      · simp [hk]; omega
      · simp [hk]
    · rw [if_neg h1]
      by_cases h2 : done = false ∧ ltL e m.2 = true
      · rw [if_pos h2, cfL_cons, cfL_app, cfL_if, h2.1]
        have := putGo_cf c e k l true
        simp only [if_true, Int.add_zero] at this
        simp only [Bool.false_eq_true, if_false]
        generalize (if k = keyOf e then c else 0) = B
        generalize (if k = keyOf m.2 then m.1 else 0) = A
        omega
      · rw [if_neg h2, cfL_app, cfL_if]
        have := putGo_cf c e k l done
        omega
theorem putL_cf (L : List Mon) (c : Int) (e : List Int) (k : Key) : cfL (putL L c e) k % 10007 = (cfL L k + if k = keyOf e then c else 0) % 10007 := by
  unfold putL
  rw [putGo_cf]
  by_cases h : c = 0 <;> simp [h]
end Go.Proofs.YtbeekabpflaihaaGreat


namespace Go.Proofs.YtbeekabpflaihaaGreat
open Go.Abs
set_option linter.unusedSectionVars false
set_option linter.unusedVariables false
set_option linter.unusedSimpArgs false
set_option maxHeartbeats 1000000
def addM (o q : Key → Option Int) (x : Int) (k : Key) : Option Int := match q k with
  | some a => some (((o k).getD 0 + x % 10007 * a) % 10007)
  | none => o k
theorem addM_gv (o q : Key → Option Int) (x : Int) (k : Key) : gv (addM o q x) k % 10007 = (gv o k + x * gv q k) % 10007 := by
  unfold gv addM
  cases q k with
  | none => simp
  | some a =>
    simp only [Option.getD_some]
    rw [Int.emod_emod_of_dvd _ (Int.dvd_refl _), Int.add_emod, mod_mul_l, ← Int.add_emod]
end Go.Proofs.YtbeekabpflaihaaGreat


namespace Go.Proofs.YtbeekabpflaihaaGreat
open Go.Abs
set_option linter.unusedSectionVars false
set_option linter.unusedVariables false
set_option linter.unusedSimpArgs false
set_option maxHeartbeats 1000000
def hasK (rem : List (Key × Int)) (k : Key) : Bool := rem.any fun e => decide (e.1 = k)
theorem hasK_iff {rem : List (Key × Int)} {k : Key} : hasK rem k = true ↔ ∃ e ∈ rem, e.1 = k := by simp [hasK]
end Go.Proofs.YtbeekabpflaihaaGreat


namespace Go.Proofs.YtbeekabpflaihaaGreat
open Go.Abs
set_option linter.unusedSectionVars false
set_option linter.unusedVariables false
set_option linter.unusedSimpArgs false
set_option maxHeartbeats 1000000
theorem VOk.low {n i : Nat} {m : Mon} (h : VOk n m) (hi : i < n) (hp : 0 < m.2[i]?.getD 0) : VOk n (m.1 * m.2[i]?.getD 0 % 10007, m.2.set i (m.2[i]?.getD 0 - 1)) := by
  have hl := h.len
  refine ⟨isN_mod _, by simpa using hl, fun x hx => ?_⟩
  rcases List.mem_or_eq_of_mem_set hx with hx | rfl
  · exact h.pw x hx
  · have hm : m.2[i]?.getD 0 ∈ m.2 := by
      rw [List.getElem?_eq_getElem (by omega), Option.getD_some]; exact List.getElem_mem _
    have := h.pw _ hm
    omega
theorem sumI_map {α β : Type} (g : α → β) (f : β → Int) : ∀ l : List α, sumI f (l.map g) = sumI (fun a => f (g a)) l
  | [] => rfl
  | a :: l => by rw [List.map_cons, sumI, sumI, sumI_map g f l]
theorem polF_enum {p : List Mon} (h : p.Pairwise (fun a b => keyOf a.2 ≠ keyOf b.2)) : Enum (polF p) (p.map keyM) := by
  refine ⟨?_, fun e he => ?_, fun k hk => ?_⟩
  · rw [List.pairwise_map]; exact h
  · obtain ⟨k, x⟩ := e
    exact (polF_some h).2 he
  · cases hc : polF p k with
    | none => rfl
    | some x => exact (hk _ ((polF_some h).1 hc) rfl).elim
theorem polF_gv {p : List Mon} (h : p.Pairwise (fun a b => keyOf a.2 ≠ keyOf b.2)) (k : Key) : gv (polF p) k = cfL p k := by
  unfold gv
  rw [← coef_enum (polF_enum h) k]
  unfold coef cfL coef
  rw [sumI_map]
  rfl
end Go.Proofs.YtbeekabpflaihaaGreat


namespace Go.Proofs.YtbeekabpflaihaaGreat
open Go.Abs
set_option linter.unusedSectionVars false
set_option linter.unusedVariables false
set_option linter.unusedSimpArgs false
set_option maxHeartbeats 1000000
def NN (k : Key) : Prop := 0 ≤ k.1 ∧ 0 ≤ k.2.1 ∧ 0 ≤ k.2.2
def Eqv (C D : Key → Int) : Prop := ∀ k, NN k → C k % 10007 = D k % 10007
theorem NN.box {k : Key} (h : k ∈ box) : NN k := by have := mem_box.1 h; exact ⟨by omega, by omega, by omega⟩
theorem Eqv.refl (C : Key → Int) : Eqv C C := fun _ _ => rfl
theorem Eqv.symm {C D : Key → Int} (h : Eqv C D) : Eqv D C := fun k hk => (h k hk).symm
theorem Eqv.trans {C D E : Key → Int} (h : Eqv C D) (h2 : Eqv D E) : Eqv C E := fun k hk => (h k hk).trans (h2 k hk)
theorem mod_mul {a b : Int} (c : Int) (h : a % 10007 = b % 10007) : c * a % 10007 = c * b % 10007 := by rw [Int.mul_emod, h, ← Int.mul_emod]
end Go.Proofs.YtbeekabpflaihaaGreat


namespace Go.Proofs.YtbeekabpflaihaaGreat
open Go.Abs
set_option linter.unusedSectionVars false
set_option linter.unusedVariables false
set_option linter.unusedSimpArgs false
set_option maxHeartbeats 1000000
theorem partValue_c {z : Int} {p : List Mon} {y : List Int} (hz : z ≤ 3) (hp : partB z p = true) (hpl : p.length ≤ 1048576) (hy : Ns y) (hl : (y.length : Int) = z) :
    Con Tryz.prog 179 [.fmp (polF p), .sl y.length (avs y)] (.int (vsum y p % 10007)) := by
  have hv := vsum_le y p (fun m hm => by have := partB_mem hp hm; have l1 := this.lo; have l2 := this.hi; exact ⟨by omega, by omega⟩)
  refine value_c (polF p) y (vsum y p) hy (by omega) (fun k x hk => part_entries hz hp hk) (by omega) (fun es he => ?_)
  rw [rest_perm y (enum_perm (keys_nd hz hp) he)]
  exact rest_map (by omega) p
theorem valuesAt_c (z : Int) (f : List (List Mon)) (y : List Int) (hf : FieldOk z f) (hs : Small f) (hy : Ns y) (hl : (y.length : Int) = z) :
    Con Tryz.prog 132 [.sl f.length (fpols f), .sl y.length (avs y)] (.own 2 f.length (avs (evL y f))) := by
  have fl := hs.1
  have z3 := hf.hi
  refine con_of_vc Tryz.mixed ⟨8, [], [], []⟩ Tryz.func132 (by decide) rfl (by simp) (by decide) (by simp [freshOK, freshL, go_sem]) ?_
  rw [Tryz.ntmps132]
  simp [go_sem]
  refine loop_inv (5 :: 7 :: List.range' 11 11) (fun i : Nat => [(5, .own 2 i (avs (evL y (f.take i)))), (11, .int i)]) (fun i => i ≤ f.length) (fun i => f.length - i) 0 (by simp) (by simp [go_sem, evL]) (by simp [go_sem]) ?_
  intro i hi
  simp [go_sem]
  refine ⟨fun h => ?_, fun h => ?_⟩ <;> simp at h
  · have hif := h
    have hx : f[i]?.getD [] ∈ f := by simp [h]
    have hv := evL_take (y := y) h
    simp [go_sem, fpols_drop hif]
    refine ⟨⟨hif, by rintro rfl; simp at hif⟩, ?_⟩
    refine CallVC.of (partValue_c z3 (hf.part _ hx) (hs.2 _ hx).1 hy hl) (by decide) ?_
    simp [go_sem]
    refine ⟨⟨by omega, by omega⟩, by omega, i + 1, by omega, by omega, Off_reset _ _ _ (by simp), ?_, by omega⟩
    rw [hv]; simp [avs_snoc, Nat.min_eq_left hi]
  · simp [go_sem]
    have e : i = f.length := by omega
    subst e; simp
end Go.Proofs.YtbeekabpflaihaaGreat


namespace Go.Proofs.YtbeekabpflaihaaGreat
open Go.Abs
set_option linter.unusedSectionVars false
set_option linter.unusedVariables false
set_option linter.unusedSimpArgs false
set_option maxHeartbeats 1000000
theorem l01Own_c (xs : List Int) (hl : xs.length ≤ 17592186044416) : Con Tryz.prog 129 [.sl xs.length (avs xs)] (.own 2 xs.length (avs xs)) := by
  refine con_of_vc Tryz.mixed ⟨3, [], [], []⟩ Tryz.func129 (by decide) rfl (by simp) (by decide) (by simp [freshOK, freshL, go_sem]) ?_
  rw [Tryz.ntmps129]
  simp [go_sem]
  try omega
theorem l01Same_c (a b : List Int) (ha : a.length ≤ 9223372036854775807) : Con Tryz.prog 166 [.sl a.length (avs a), .sl b.length (avs b)] (.bool (decide (a = b))) := by
  refine con_of_vc Tryz.mixed ⟨6, [], [], []⟩ Tryz.func166 (by decide) rfl (by simp) (by decide) (by simp [freshOK, freshL, go_sem]) ?_
  rw [Tryz.ntmps166]
  simp [go_sem]
  refine ⟨fun h => ?_, fun h => ?_⟩ <;> simp at h <;> simp [go_sem]
  · rintro rfl; omega
  have hl : a.length = b.length := by omega
  refine loop_inv (4 :: 5 :: List.range' 11 16) (fun i : Nat => [(5, .int i)]) (fun i => i ≤ a.length ∧ a.take i = b.take i) (fun i => a.length - i) 0 (by simp) (by simp [go_sem]) (by simp [go_sem]) ?_
  intro i hi
  simp [go_sem]
  refine ⟨fun h => ?_, fun h => ?_⟩ <;> simp at h
  · have h2 : i < b.length := by omega
    simp [go_sem, avs_drop h, avs_drop h2]
    refine ⟨by kernel_rfl, ⟨h, by rintro rfl; simp at h⟩, ⟨h2, by rintro rfl; simp at h2⟩, ?_⟩
    refine ⟨by kernel_rfl, ?_⟩
    simp [go_sem]
    refine ⟨fun h3 => ?_, fun h3 => ?_⟩ <;> simp at h3 <;> simp [go_sem]
    · rintro rfl; exact h3 rfl
    · refine ⟨by omega, i + 1, ⟨by omega, ?_⟩, by omega, Off_reset _ _ _ (by simp), by omega⟩
      rw [List.take_add_one, List.take_add_one, hi.2]
      rw [List.getElem?_eq_getElem h, List.getElem?_eq_getElem h2] at h3 ⊢
      simp only [Option.getD_some] at h3
      rw [h3]
  · simp [go_sem]
    have e : i = a.length := by omega
    subst e
    have := hi.2
    rw [List.take_length, hl, List.take_length] at this
    exact this
theorem omons_one (m : Mon) : omons [m] = [.int m.1, .own 2 m.2.length (avs m.2)] := rfl
theorem putGo_t (c : Int) (e : List Int) (m : Mon) (l : List Mon) : putGo c e (m :: l) true = (if m.1 = 0 then [] else [m]) ++ putGo c e l true := by
  rw [putGo, if_neg (by simp), if_neg (by simp)]
theorem putGo_e (c : Int) (m : Mon) (l : List Mon) : putGo c m.2 (m :: l) false = (if (m.1 + c) % 10007 = 0 then [] else [((m.1 + c) % 10007, m.2)]) ++ putGo c m.2 l true := by
  rw [putGo, if_pos (by simp)]
theorem putGo_l {c : Int} {e : List Int} {m : Mon} (l : List Mon) (h : ¬ m.2 = e) (h2 : ltL e m.2 = true) : putGo c e (m :: l) false = (c, e) :: ((if m.1 = 0 then [] else [m]) ++ putGo c e l true) := by
  rw [putGo, if_neg (by simp [h]), if_pos (by simp [h2])]
theorem putGo_g {c : Int} {e : List Int} {m : Mon} (l : List Mon) (h : ¬ m.2 = e) (h2 : ltL e m.2 = false) : putGo c e (m :: l) false = (if m.1 = 0 then [] else [m]) ++ putGo c e l false := by
  rw [putGo, if_neg (by simp [h]), if_neg (by simp [h2])]
set_option maxRecDepth 100000 in
theorem l13Put_c (L : List Mon) (c : Int) (e : List Int) (hc : isN c) (hL : ∀ m ∈ L, isN m.1 ∧ m.2.length ≤ 1048576) (hl : L.length ≤ 1000000000000) (he : e.length ≤ 1048576) :
    Con Tryz.prog 246 [.sl L.length (mons L), .int c, .sl e.length (avs e)] (.own 127 (putL L c e).length (omons (putL L c e))) := by
  refine con_of_vc Tryz.mixed ⟨11, [], [], []⟩ Tryz.func246 (by decide) rfl (by simp) (by decide) (by simp [freshOK, freshL, go_sem]) ?_
  rw [Tryz.ntmps246]
  simp [go_sem]
  refine loop_inv (List.range' 7 61) (fun x : Nat × Bool × List Mon => [(7, .own 127 x.2.2.length (omons x.2.2)), (8, .bool x.2.1), (9, .int x.1)]) (fun x => x.1 ≤ L.length ∧ x.2.2.length ≤ x.1 + (if x.2.1 = true then 1 else 0) ∧ x.2.2 ++ putGo c e (L.drop x.1) x.2.1 = putL L c e) (fun x => L.length - x.1) (0, decide (c = 0), []) ⟨by simp, by simp, by simp [putL]⟩ (by simp [go_sem]) (by simp [go_sem]) ?_
  rintro ⟨i, done, O⟩ ⟨hi, hO, he2⟩
  simp only at hi hO he2
  simp [go_sem]
  refine ⟨fun h => ?_, fun h => ?_⟩ <;> simp at h
  · have hif := h
    have hx : L[i]?.getD (0, []) ∈ L := by simp [h]
    have hd : L.drop i = L[i]?.getD (0, []) :: L.drop (i + 1) := by rw [List.drop_eq_getElem_cons h]; simp [h]
    obtain ⟨hm1, hm2⟩ := hL _ hx
    simp [go_sem, mons_drop hif]
    generalize hM : L[i]?.getD (0, []) = m at *
    refine ⟨by kernel_rfl, ⟨hif, by rintro rfl; simp at hif⟩, ?_⟩
    refine CallD.of (l01Own_c m.2 (by omega)) (by simp [roots, rootsL]) (by decide) ?_
    simp [go_sem]
    refine ⟨by kernel_rfl, ?_⟩
    simp [go_sem]
    rw [hd] at he2
    cases done with
    | true =>
      rw [putGo_t] at he2
      simp only [if_true] at hO
      simp [go_sem]
      by_cases h0 : m.1 = 0
      · simp [go_sem, h0]
        rw [if_pos h0] at he2
        exact ⟨by omega, i + 1, O, ⟨by omega, by omega, he2⟩, by omega, Off_reset _ _ _ (by simp), ⟨rfl, rfl⟩, by omega⟩
      · simp [go_sem, h0]
        rw [if_neg h0] at he2
        exact ⟨⟨by omega, by omega⟩, by omega, i + 1, O ++ [m], ⟨by omega, by simp; omega, by simpa using he2⟩, by omega, Off_reset _ _ _ (by simp), ⟨by simp, by simp [omons_app, omons_one]⟩, by omega⟩
    | false =>
      simp only [Bool.false_eq_true, if_false] at hO
      by_cases hme : m.2 = e
      · subst hme
        rw [putGo_e] at he2
        simp [go_sem]
        refine CallVC.of (l01Same_c m.2 m.2 (by omega)) (by decide) ?_
        simp [go_sem]
        refine CallVC.of (l01Add_c _ _ (add_fits hm1 hc)) (by decide) ?_
        simp [go_sem]
        by_cases h0 : (m.1 + c) % 10007 = 0
        · simp [go_sem, h0]
          rw [if_pos h0] at he2
          exact ⟨by omega, i + 1, O, ⟨by omega, by omega, he2⟩, by omega, Off_reset _ _ _ (by simp), ⟨rfl, rfl⟩, by omega⟩
        · simp [go_sem, h0]
          rw [if_neg h0] at he2
          exact ⟨⟨by omega, by omega⟩, by omega, i + 1, O ++ [((m.1 + c) % 10007, m.2)], ⟨by omega, by simp; omega, by simpa using he2⟩, by omega, Off_reset _ _ _ (by simp), ⟨by simp, by simp [omons_app, omons_one]⟩, by omega⟩
      · simp [go_sem]
        refine CallVC.of (l01Same_c m.2 e (by omega)) (by decide) ?_
        simp [go_sem]
        simp [go_sem, hme]
        refine CallVC.of (l01Less_c e m.2 (by omega) (by omega)) (by decide) ?_
        simp [go_sem]
        cases hlt : ltL e m.2 with
        | true =>
          rw [putGo_l _ hme hlt] at he2
          simp [go_sem]
          refine CallVC.of (l01Own_c e (by omega)) (by decide) ?_
          simp [go_sem]
          by_cases h0 : m.1 = 0
          · simp [go_sem, h0]
            rw [if_pos h0] at he2
            exact ⟨⟨by omega, by omega⟩, by omega, i + 1, O ++ [(c, e)], ⟨by omega, by simp; omega, by simpa using he2⟩, by omega, Off_reset _ _ _ (by simp), ⟨by simp, by simp [omons_app, omons_one]⟩, by omega⟩
          · simp [go_sem, h0]
            rw [if_neg h0] at he2
            exact ⟨⟨by omega, by omega⟩, ⟨by omega, by omega, by omega⟩, by omega, i + 1, O ++ [(c, e), m], ⟨by omega, by simp; omega, by simpa using he2⟩, by omega, Off_reset _ _ _ (by simp), ⟨by simp, by simp [omons]⟩, by omega⟩
        | false =>
          rw [putGo_g _ hme hlt] at he2
          simp [go_sem]
          by_cases h0 : m.1 = 0
          · simp [go_sem, h0]
            rw [if_pos h0] at he2
            exact ⟨by omega, i + 1, O, ⟨by omega, by omega, he2⟩, by omega, Off_reset _ _ _ (by simp), ⟨rfl, rfl⟩, by omega⟩
          · simp [go_sem, h0]
            rw [if_neg h0] at he2
            exact ⟨⟨by omega, by omega⟩, by omega, i + 1, O ++ [m], ⟨by omega, by simp; omega, by simpa using he2⟩, by omega, Off_reset _ _ _ (by simp), ⟨by simp, by simp [omons_app, omons_one]⟩, by omega⟩
  · simp [go_sem]
    rw [List.drop_eq_nil_of_le h] at he2
    cases done with
    | true =>
      simp [go_sem]
      rw [← he2]; simp [putGo]
    | false =>
      simp only [Bool.false_eq_true, if_false] at hO
      simp [go_sem]
      refine CallVC.of (l01Own_c e (by omega)) (by decide) ?_
      simp [go_sem]
      rw [← he2]
      exact ⟨⟨by omega, by omega⟩, by simp [putGo], by simp [putGo, omons_app, omons_one]⟩
end Go.Proofs.YtbeekabpflaihaaGreat


namespace Go.Proofs.YtbeekabpflaihaaGreat
set_option linter.unusedSectionVars false
set_option linter.unusedVariables false
set_option linter.unusedSimpArgs false
class CR (α : Type) extends Add α, Mul α where
  ofI : Int → α
  addC : ∀ a b : α, a + b = b + a
  addA : ∀ a b c : α, a + b + c = a + (b + c)
  add0 : ∀ a : α, a + ofI 0 = a
  mulC : ∀ a b : α, a * b = b * a
  mulA : ∀ a b c : α, a * b * c = a * (b * c)
  mul1 : ∀ a : α, a * ofI 1 = a
  mulD : ∀ a b c : α, a * (b + c) = a * b + a * c
  mul0 : ∀ a : α, a * ofI 0 = ofI 0
  ofAdd : ∀ a b : Int, ofI (a + b) = ofI a + ofI b
  ofMul : ∀ a b : Int, ofI (a * b) = ofI a * ofI b
namespace CR
section
variable {α : Type} [CR α]
instance : Std.Associative (α := α) (· + ·) := ⟨addA⟩
instance : Std.Commutative (α := α) (· + ·) := ⟨addC⟩
instance : Std.Associative (α := α) (· * ·) := ⟨mulA⟩
instance : Std.Commutative (α := α) (· * ·) := ⟨mulC⟩
theorem zadd (a : α) : ofI 0 + a = a := by rw [addC, add0]
theorem omul (a : α) : ofI 1 * a = a := by rw [mulC, mul1]
theorem zmul (a : α) : ofI 0 * a = ofI 0 := by rw [mulC, mul0]
theorem Dmul (a b c : α) : (a + b) * c = a * c + b * c := by rw [mulC, mulD, mulC c, mulC c]
end
end CR
open CR
instance : CR Int where
  ofI := id
  addC := Int.add_comm
  addA := Int.add_assoc
  add0 := Int.add_zero
  mulC := Int.mul_comm
  mulA := Int.mul_assoc
  mul1 := Int.mul_one
  mulD := Int.mul_add
  mul0 := Int.mul_zero
  ofAdd := fun _ _ => rfl
  ofMul := fun _ _ => rfl
abbrev Ser (α : Type) := Nat → α
def sh {α : Type} (a : Ser α) : Ser α := fun n => a (n + 1)
def cmul {α : Type} [CR α] : Nat → Ser α → Ser α → α
  | 0, a, b => a 0 * b 0
  | n + 1, a, b => a 0 * b (n + 1) + cmul n (sh a) b
section
variable {α : Type} [CR α]
theorem cmul_add (n : Nat) : ∀ (a b c : Ser α), cmul n a (fun i => b i + c i) = cmul n a b + cmul n a c := by
  induction n with
  | zero => intro a b c; exact mulD _ _ _
  | succ n ih => intro a b c; simp only [cmul, ih, mulD]; ac_rfl
theorem cmul_last (n : Nat) : ∀ (a b : Ser α), cmul (n + 1) a b = cmul n a (sh b) + a (n + 1) * b 0 := by
  induction n with
  | zero => intro a b; rfl
  | succ n ih =>
    intro a b
    rw [cmul, ih, cmul]
    show a 0 * b (n + 1 + 1) + (cmul n (sh a) (sh b) + a (n + 1 + 1) * b 0) = a 0 * b (n + 1 + 1) + cmul n (sh a) (sh b) + a (n + 1 + 1) * b 0
    ac_rfl
theorem cmul_comm (n : Nat) : ∀ (a b : Ser α), cmul n a b = cmul n b a := by
  induction n with
  | zero => intro a b; exact mulC _ _
  | succ n ih => intro a b; rw [cmul, cmul_last, ih, mulC, addC]
theorem cmul_smul (c : α) (n : Nat) : ∀ (a b : Ser α), cmul n (fun i => c * a i) b = c * cmul n a b := by
  induction n with
  | zero => intro a b; exact mulA _ _ _
  | succ n ih =>
    intro a b
    have := ih (sh a) b
    simp only [cmul, mulD]
    rw [← this, mulA]; rfl
theorem cmul_addl (n : Nat) (a b c : Ser α) : cmul n (fun i => a i + b i) c = cmul n a c + cmul n b c := by
  rw [cmul_comm n (fun i => a i + b i) c, cmul_add, cmul_comm n c a, cmul_comm n c b]
theorem cmul_assoc (n : Nat) : ∀ (a b c : Ser α), cmul n (fun i => cmul i a b) c = cmul n a (fun i => cmul i b c) := by
  induction n with
  | zero => intro a b c; exact mulA _ _ _
  | succ n ih =>
    intro a b c
    have e : sh (fun i => cmul i a b) = fun i => a 0 * sh b i + cmul i (sh a) b := rfl
    simp only [cmul]
    rw [e, cmul_addl, cmul_smul, ih, mulD]
    show a 0 * b 0 * c (n + 1) + _ = _
    rw [mulA]; ac_rfl
def sOf (k : Int) : Ser α := fun n => if n = 0 then ofI k else ofI 0
theorem cmul_of (k : Int) : ∀ (n : Nat) (a : Ser α), cmul n a (sOf k) = a n * ofI k := by
  intro n
  induction n with
  | zero => intro a; rfl
  | succ n ih =>
    intro a
    rw [cmul, ih]
    show a 0 * ofI 0 + a (n + 1) * ofI k = _
    rw [mul0, zadd]
instance : CR (Ser α) where
  add := fun a b n => a n + b n
  mul := fun a b n => cmul n a b
  ofI := sOf
  addC := fun a b => funext fun n => addC _ _
  addA := fun a b c => funext fun n => addA _ _ _
  add0 := fun a => funext fun n => by show a n + (if n = 0 then ofI 0 else ofI 0) = a n; rw [ite_self, add0]
  mulC := fun a b => funext fun n => cmul_comm n a b
  mulA := fun a b c => funext fun n => cmul_assoc n a b c
  mul1 := fun a => funext fun n => by show cmul n a (sOf 1) = a n; rw [cmul_of, mul1]
  mulD := fun a b c => funext fun n => cmul_add n a b c
  mul0 := fun a => funext fun n => by show cmul n a (sOf 0) = if n = 0 then ofI 0 else ofI 0; rw [cmul_of, mul0, ite_self]
  ofAdd := fun a b => funext fun n => by
    show (if n = 0 then (ofI (a + b) : α) else ofI 0) = (if n = 0 then ofI a else ofI 0) + (if n = 0 then ofI b else ofI 0)
    split
    · exact ofAdd _ _
    · rw [add0]
  ofMul := fun a b => funext fun n => by
    show (if n = 0 then (ofI (a * b) : α) else ofI 0) = cmul n (sOf a) (sOf b)
    rw [cmul_of]
    show (if n = 0 then (ofI (a * b) : α) else ofI 0) = (if n = 0 then ofI a else ofI 0) * ofI b
    split
    · exact ofMul _ _
    · rw [zmul]
theorem ser_add (a b : Ser α) (n : Nat) : (a + b) n = a n + b n := rfl
def th (a : Ser α) : Ser α := fun n => ofI (n : Int) * a n
theorem th_mul (a b : Ser α) : th (a * b) = th a * b + a * th b := by
  have gen : ∀ (n : Nat) (a b : Ser α), ofI (n : Int) * cmul n a b = cmul n (th a) b + cmul n a (th b) := by
    intro n
    induction n with
    | zero => intro a b; simp [cmul, th, zmul, mul0, add0]
    | succ n ih =>
      intro a b
      have e1 : sh (th a) = fun i => th (sh a) i + sh a i := funext fun i => by
        show ofI ((i + 1 : Nat) : Int) * a (i + 1) = ofI (i : Int) * a (i + 1) + a (i + 1)
        rw [show ((i + 1 : Nat) : Int) = (i : Int) + 1 by omega, ofAdd, Dmul, omul]
      have e2 : th a 0 = ofI 0 := by show ofI ((0 : Nat) : Int) * a 0 = _; exact zmul _
      have e3 : th b (n + 1) = ofI ((n + 1 : Nat) : Int) * b (n + 1) := rfl
      simp only [cmul]
      rw [e1, e2, e3, zmul, zadd, cmul_addl, mulD, show ((n + 1 : Nat) : Int) = (n : Int) + 1 by omega, ofAdd, Dmul (ofI (n : Int)) (ofI 1) (cmul n (sh a) b), ih, omul]
      have : (ofI (n : Int) + ofI 1) * (a 0 * b (n + 1)) = a 0 * ((ofI (n : Int) + ofI 1) * b (n + 1)) := by ac_rfl
      rw [this]; ac_rfl
  exact funext fun n => gen n a b
theorem th_add (a b : Ser α) : th (a + b) = th a + th b := funext fun n => mulD _ _ _
theorem th_of (k : Int) : th (ofI k : Ser α) = ofI 0 := funext fun n => by
  cases n with
  | zero => exact zmul _
  | succ n => show ofI _ * ofI 0 = ofI 0; exact mul0 _
def pwr (a : α) : Nat → α
  | 0 => ofI 1
  | n + 1 => pwr a n * a
def sL {β : Type} (f : β → α) : List β → α
  | [] => ofI 0
  | b :: l => f b + sL f l
def sT (f : Nat → α) : Nat → α
  | 0 => ofI 0
  | n + 1 => sT f n + f n
def mon (U : Nat → α) (e : Nat → Nat) : Nat → α
  | 0 => ofI 1
  | d + 1 => mon U e d * pwr (U d) (e d)
theorem sL_app {β : Type} (f : β → α) (l r : List β) : sL f (l ++ r) = sL f l + sL f r := by
  induction l with
  | nil => exact (zadd _).symm
  | cons a l ih => simp only [List.cons_append, sL, ih]; ac_rfl
abbrev Trm := Int × (Nat → Nat)
def ev (d : Nat) (U : Nat → α) (L : List Trm) : α := sL (fun m => ofI m.1 * mon U m.2 d) L
theorem th_0 (a : Ser α) : th a 0 = ofI 0 := zmul _
end
structure Cg (α : Type) [CR α] where
  r : α → α → Prop
  refl : ∀ a, r a a
  symm : ∀ {a b}, r a b → r b a
  trans : ∀ {a b c}, r a b → r b c → r a c
  add : ∀ {a b c d}, r a b → r c d → r (a + c) (b + d)
  mul : ∀ {a b c d}, r a b → r c d → r (a * c) (b * d)
  of : ∀ {a b : Int}, a % 10007 = b % 10007 → r (ofI a) (ofI b)
def cgI : Cg Int where
  r := fun a b => a % 10007 = b % 10007
  refl := fun _ => rfl
  symm := fun h => h.symm
  trans := fun h k => h.trans k
  add := fun h k => by omega
  mul := fun {a b c d} h k => by rw [Int.mul_emod, h, k, ← Int.mul_emod]
  of := fun h => h
section
variable {α : Type} [CR α]
theorem cmul_cg (c : Cg α) {N : Nat} : ∀ {n : Nat} {a b a' b' : Ser α}, n < N → (∀ i, i < N → c.r (a i) (a' i)) → (∀ i, i < N → c.r (b i) (b' i)) → c.r (cmul n a b) (cmul n a' b')
  | n, a, b, a', b', hn, ha, hb => by
    have gen : ∀ (n : Nat) (a b a' b' : Ser α), (∀ i, i ≤ n → c.r (a i) (a' i)) → (∀ i, i ≤ n → c.r (b i) (b' i)) → c.r (cmul n a b) (cmul n a' b') := by
      intro n
      induction n with
      | zero => intro a b a' b' ha hb; exact c.mul (ha 0 (by omega)) (hb 0 (by omega))
      | succ n ih =>
        intro a b a' b' ha hb
        exact c.add (c.mul (ha 0 (by omega)) (hb (n + 1) (by omega))) (ih _ _ _ _ (fun i hi => ha (i + 1) (by omega)) (fun i hi => hb i (by omega)))
    exact gen n a b a' b' (fun i hi => ha i (by omega)) (fun i hi => hb i (by omega))
def cgS (c : Cg α) (N : Nat) : Cg (Ser α) where
  r := fun a b => ∀ n, n < N → c.r (a n) (b n)
  refl := fun a n _ => c.refl _
  symm := fun h n hn => c.symm (h n hn)
  trans := fun h k n hn => c.trans (h n hn) (k n hn)
  add := fun h k n hn => c.add (h n hn) (k n hn)
  mul := fun h k n hn => cmul_cg c hn h k
  of := fun {a b} h n hn => by
    show c.r (if n = 0 then ofI a else ofI 0) (if n = 0 then ofI b else ofI 0)
    split
    · exact c.of h
    · exact c.refl _
theorem Cg.sT (c : Cg α) {f g : Nat → α} : ∀ {n : Nat}, (∀ k, k < n → c.r (f k) (g k)) → c.r (sT f n) (sT g n)
  | 0, _ => c.refl _
  | n + 1, h => c.add (Cg.sT c (fun k hk => h k (by omega))) (h n (by omega))
theorem Cg.sL (c : Cg α) {β : Type} {f g : β → α} : ∀ {l : List β}, (∀ b ∈ l, c.r (f b) (g b)) → c.r (sL f l) (sL g l)
  | [], _ => c.refl _
  | b :: l, h => c.add (h b (by simp)) (Cg.sL c (fun x hx => h x (by simp [hx])))
theorem Cg.pwr (c : Cg α) {a b : α} (h : c.r a b) : ∀ n, c.r (pwr a n) (pwr b n)
  | 0 => c.refl _
  | n + 1 => c.mul (Cg.pwr c h n) h
theorem Cg.mon (c : Cg α) {U V : Nat → α} (e : Nat → Nat) : ∀ {d : Nat}, (∀ k, k < d → c.r (U k) (V k)) → c.r (mon U e d) (mon V e d)
  | 0, _ => c.refl _
  | d + 1, h => c.mul (Cg.mon c e (fun k hk => h k (by omega))) (Cg.pwr c (h d (by omega)) _)
theorem Cg.ev (c : Cg α) {d : Nat} {U V : Nat → α} (h : ∀ k, k < d → c.r (U k) (V k)) (L : List Trm) : c.r (ev d U L) (ev d V L) :=
  c.sL (fun m _ => c.mul (c.refl _) (c.mon m.2 h))
end
end Go.Proofs.YtbeekabpflaihaaGreat


namespace Go.Proofs.YtbeekabpflaihaaGreat
open CR
set_option linter.unusedSectionVars false
set_option linter.unusedVariables false
set_option linter.unusedSimpArgs false
set_option maxHeartbeats 1000000
def ex (e : List Int) : Nat → Nat := fun k => (e[k]?.getD 0).toNat
def tr (m : Mon) : Trm := (m.1, ex m.2)
structure WOk (n : Nat) (B : Int) (m : Mon) : Prop where
  num : isN m.1
  len : m.2.length = n
  pw : ∀ x ∈ m.2, 0 ≤ x ∧ x ≤ B
theorem VOk.wok {n : Nat} {m : Mon} (h : VOk n m) : WOk n 3 m := ⟨h.num, h.len, h.pw⟩
theorem WOk.le {n : Nat} {B C : Int} {m : Mon} (h : WOk n B m) (hBC : B ≤ C) : WOk n C m := ⟨h.num, h.len, fun x hx => ⟨(h.pw x hx).1, Int.le_trans (h.pw x hx).2 hBC⟩⟩
theorem WOk.get {n : Nat} {B : Int} {m : Mon} (h : WOk n B m) (hB : 0 ≤ B) (k : Nat) : 0 ≤ m.2[k]?.getD 0 ∧ m.2[k]?.getD 0 ≤ B := by
  rcases Nat.lt_or_ge k m.2.length with hk | hk
  · simp [hk]; exact h.pw _ (List.getElem_mem hk)
  · simp [hk]; exact hB
section
variable {α : Type} [CR α]
def evM (d : Nat) (U : Nat → α) (L : List Mon) : α := ev d U (L.map tr)
theorem evM_nil (d : Nat) (U : Nat → α) : evM d U [] = ofI 0 := rfl
theorem evM_cons (d : Nat) (U : Nat → α) (m : Mon) (L : List Mon) : evM d U (m :: L) = ofI m.1 * mon U (ex m.2) d + evM d U L := rfl
theorem evM_app (d : Nat) (U : Nat → α) (L R : List Mon) : evM d U (L ++ R) = evM d U L + evM d U R := by
  unfold evM ev; rw [List.map_append, sL_app]
theorem evM_if (d : Nat) (U : Nat → α) (m : Mon) : evM d U (if m.1 = 0 then [] else [m]) = ofI m.1 * mon U (ex m.2) d := by
  split
  · rename_i h; rw [h, zmul]; rfl
  · rw [evM_cons, evM_nil, add0]
theorem Cg.eq (c : Cg α) {a b : α} (h : a = b) : c.r a b := by rw [h]; exact c.refl _
theorem putGo_ev (c : Cg α) (d : Nat) (U : Nat → α) (k : Int) (e : List Int) : ∀ (l : List Mon) (done : Bool),
    c.r (evM d U (putGo k e l done)) (evM d U l + if done = true then ofI 0 else ofI k * mon U (ex e) d)
  | [], true => c.eq (by simp [putGo]; rw [add0])
  | [], false => c.eq (by simp [putGo]; rw [evM_cons, evM_nil, addC])
  | m :: l, done => by
    rw [putGo]
    by_cases h1 : done = false ∧ m.2 = e
    · rw [if_pos h1, evM_app, h1.1, ← h1.2]
      have e1 := evM_if d U ((m.1 + k) % 10007, m.2)
      simp only at e1
      rw [e1]
      refine c.trans (c.add (c.mul (c.of (a := (m.1 + k) % 10007) (b := m.1 + k) (by omega)) (c.refl _)) (putGo_ev c d U k m.2 l true)) (c.eq ?_)
      simp only [if_true, Bool.false_eq_true, if_false]
      rw [evM_cons, ofAdd, Dmul, add0]; ac_rfl
    · rw [if_neg h1]
      by_cases h2 : done = false ∧ ltL e m.2 = true
      · rw [if_pos h2, evM_cons, evM_app, evM_if, h2.1]
        refine c.trans (c.add (c.refl _) (c.add (c.refl _) (putGo_ev c d U k e l true))) (c.eq ?_)
        simp only [if_true, Bool.false_eq_true, if_false]
        rw [evM_cons, add0]; ac_rfl
      · rw [if_neg h2, evM_app, evM_if]
        refine c.trans (c.add (c.refl _) (putGo_ev c d U k e l done)) (c.eq ?_)
        rw [evM_cons, addA]
theorem putL_ev (c : Cg α) (d : Nat) (U : Nat → α) (L : List Mon) (k : Int) (e : List Int) : c.r (evM d U (putL L k e)) (evM d U L + ofI k * mon U (ex e) d) := by
  unfold putL
  refine c.trans (putGo_ev c d U k e L _) (c.eq ?_)
  by_cases h : k = 0
  · simp [h]; rw [zmul]
  · simp [h]
def plusL (p : List Mon) (k : Int) : List Mon → List Mon
  | [] => p
  | m :: q => plusL (putL p (k * m.1 % 10007) m.2) k q
def addE (a b : List Int) : List Int := List.zipWith (· + ·) a b
def prodRow (a : Mon) (acc : List Mon) : List Mon → List Mon
  | [] => acc
  | b :: q => prodRow a (putL acc (a.1 * b.1 % 10007) (addE a.2 b.2)) q
def prodGo (acc : List Mon) (q : List Mon) : List Mon → List Mon
  | [] => acc
  | a :: p => prodGo (prodRow a acc q) q p
def prodL (p q : List Mon) : List Mon := prodGo [] q p
def LOk (n : Nat) (L : List Mon) : Prop := ∀ m ∈ L, m.2.length = n ∧ ∀ x ∈ m.2, 0 ≤ x
theorem LOk.tl {n : Nat} {m : Mon} {L : List Mon} (h : LOk n (m :: L)) : LOk n L := fun a ha => h a (by simp [ha])
theorem LOk.hd {n : Nat} {m : Mon} {L : List Mon} (h : LOk n (m :: L)) : m.2.length = n ∧ ∀ x ∈ m.2, 0 ≤ x := h m (by simp)
end
end Go.Proofs.YtbeekabpflaihaaGreat


namespace Go.Proofs.YtbeekabpflaihaaGreat
open Go.Abs
set_option linter.unusedSectionVars false
set_option linter.unusedVariables false
set_option linter.unusedSimpArgs false
set_option maxHeartbeats 1000000
theorem putGo_len (c : Int) (e : List Int) : ∀ (l : List Mon) (done : Bool), (putGo c e l done).length ≤ l.length + 1
  | [], true => by simp [putGo]
  | [], false => by simp [putGo]
  | m :: l, done => by
    have one : ∀ b : Mon, (if b.1 = 0 then [] else [b]).length ≤ 1 := fun b => by split <;> simp
    have ht : ∀ l : List Mon, (putGo c e l true).length ≤ l.length := by
      intro l
      induction l with
      | nil => simp [putGo]
      | cons m l ih => rw [putGo_t]; have := one m; simp; omega
    have h1 := putGo_len c e l done
    have h2 := ht l
    have h3 := one m
    have h4 := one ((m.1 + c) % 10007, m.2)
    simp only at h4
    rw [putGo]
    split
    · simp only [List.length_append, List.length_cons]; omega
    · split
      · simp only [List.length_append, List.length_cons]; omega
      · simp only [List.length_append, List.length_cons]; omega
theorem putL_len (L : List Mon) (c : Int) (e : List Int) : (putL L c e).length ≤ L.length + 1 := putGo_len c e L _
theorem putGo_wok {n : Nat} {B c : Int} {e : List Int} (h : WOk n B (c, e)) : ∀ (l : List Mon) (done : Bool), (∀ m ∈ l, WOk n B m) → ∀ m ∈ putGo c e l done, WOk n B m
  | [], true, _, m, hm => by simp [putGo] at hm
  | [], false, _, m, hm => by simp [putGo] at hm; rw [hm]; exact h
  | a :: l, done, hl, m, hm => by
    have ha := hl a (by simp)
    have ih := fun d => putGo_wok h l d (fun b hb => hl b (by simp [hb]))
    have one : ∀ b : Mon, WOk n B b → m ∈ (if b.1 = 0 then [] else [b]) → WOk n B m := fun b hb hmm => by
      split at hmm
      · simp at hmm
      · simp at hmm; rw [hmm]; exact hb
    rw [putGo] at hm
    split at hm
    · rcases List.mem_append.1 hm with hm | hm
      · exact one ((a.1 + c) % 10007, a.2) ⟨isN_mod _, ha.len, ha.pw⟩ hm
      · exact ih _ m hm
    · split at hm
      · rcases List.mem_cons.1 hm with hm | hm
        · rw [hm]; exact h
        · rcases List.mem_append.1 hm with hm | hm
          · exact one a ha hm
          · exact ih _ m hm
      · rcases List.mem_append.1 hm with hm | hm
        · exact one a ha hm
        · exact ih _ m hm
theorem WOk.low {n i : Nat} {B : Int} {m : Mon} (h : WOk n B m) (hi : i < n) (hp : 0 < m.2[i]?.getD 0) : WOk n B (m.1 * m.2[i]?.getD 0 % 10007, m.2.set i (m.2[i]?.getD 0 - 1)) := by
  have hl := h.len
  refine ⟨isN_mod _, by simpa using hl, fun x hx => ?_⟩
  rcases List.mem_or_eq_of_mem_set hx with hx | rfl
  · exact h.pw x hx
  · have hm : m.2[i]?.getD 0 ∈ m.2 := by
      rw [List.getElem?_eq_getElem (by omega), Option.getD_some]; exact List.getElem_mem _
    have := h.pw _ hm
    omega
end Go.Proofs.YtbeekabpflaihaaGreat


namespace Go.Proofs.YtbeekabpflaihaaGreat
open Go.Abs
set_option linter.unusedSectionVars false
set_option linter.unusedVariables false
set_option linter.unusedSimpArgs false
set_option maxHeartbeats 1000000
theorem omat_app (A C : List (List Int)) : omat (A ++ C) = omat A ++ omat C := by simp [omat]
theorem omat_one (r : List Int) : omat [r] = [.own 2 r.length (avs r)] := rfl
theorem omat_nil : omat [] = [] := rfl
end Go.Proofs.YtbeekabpflaihaaGreat


namespace Go.Proofs.YtbeekabpflaihaaGreat
open Go.Abs
set_option linter.unusedSectionVars false
set_option linter.unusedVariables false
set_option linter.unusedSimpArgs false
set_option maxHeartbeats 1000000
end Go.Proofs.YtbeekabpflaihaaGreat


namespace Go.Proofs.YtbeekabpflaihaaGreat
open Go.Abs
set_option linter.unusedSectionVars false
set_option linter.unusedVariables false
set_option linter.unusedSimpArgs false
set_option maxHeartbeats 4000000
def plusS (a b : List Int) (k : Int) : List Int := tb (fun i => (a[i]?.getD 0 + k % 10007 * b[i]?.getD 0) % 10007) a.length
@[simp] theorem plusS_len (a b : List Int) (k : Int) : (plusS a b k).length = a.length := by simp [plusS]
theorem plusS_N (a b : List Int) (k : Int) : Ns (plusS a b k) := tb_N fun i _ => isN_mod _
def scalS (a : List Int) (k : Int) : List Int := tb (fun i => a[i]?.getD 0 * (k % 10007) % 10007) a.length
@[simp] theorem scalS_len (a : List Int) (k : Int) : (scalS a k).length = a.length := by simp [scalS]
theorem scalS_N (a : List Int) (k : Int) : Ns (scalS a k) := tb_N fun i _ => isN_mod _
theorem plus_c (a b : List Int) (k : Int) (ha : Ns a) (hb : Ns b) (hk : fits k) (hl : a.length ≤ 1048576) (hab : a.length ≤ b.length) :
    Con Tryz.prog 53 [.sl a.length (avs a), .sl b.length (avs b), .int k] (.own 2 a.length (avs (plusS a b k))) := by
  refine con_of_vc Tryz.mixed ⟨10, [], [], []⟩ Tryz.func53 (by decide) rfl (by simp) (by decide) (by simp [freshOK, freshL, go_sem]) ?_
  rw [Tryz.ntmps53]
  simp [go_sem]
  refine loop_inv (7 :: 8 :: 9 :: List.range' 13 19) (fun i : Nat => [(7, .own 2 i (avs (tb (fun i => (a[i]?.getD 0 + k % 10007 * b[i]?.getD 0) % 10007) i))), (13, .int i)]) (fun i => i ≤ a.length) (fun i => a.length - i) 0 (by simp) (by simp [go_sem]) (by simp [go_sem]) ?_
  intro i hi
  simp [go_sem]
  refine ⟨fun h => ?_, fun h => ?_⟩ <;> simp at h
  · have h2 : i < b.length := by omega
    have m1 := mul_bound (isN_mod k) (hb.get i)
    have m2 := ha.get i
    have f1 : fits (k % 10007 * b[i]?.getD 0) := ⟨by omega, by omega⟩
    have f2 : fits (a[i]?.getD 0 + k % 10007 * b[i]?.getD 0) := by obtain ⟨x0, x1⟩ := m2; exact ⟨by omega, by omega⟩
    simp [go_sem, avs_drop h, avs_drop h2]
    refine ⟨⟨h, by rintro rfl; simp at h⟩, by kernel_rfl, ?_⟩
    refine CallD.of (num_c _ hk.1 hk.2) (by simp [roots, rootsL]) (by decide) ?_
    simp [go_sem]
    simp [go_sem, avs_drop h, avs_drop h2]
    refine ⟨⟨h2, by rintro rfl; simp at h2⟩, f1, f2, ?_⟩
    refine CallD.of (num_c _ f2.1 f2.2) (by simp [roots, rootsL]) (by decide) ?_
    simp [go_sem]
    refine ⟨by omega, ?_⟩
    refine ⟨by kernel_rfl, ?_⟩
    simp [go_sem]
    exact ⟨by omega, i + 1, by omega, by omega, Off_reset _ _ _ (by simp), by simp [tb_succ, avs_snoc], by omega⟩
  · have e : i = a.length := by omega
    subst e
    simp [go_sem]
    rfl
theorem scaled_c (a : List Int) (k : Int) (ha : Ns a) (hk : fits k) (hl : a.length ≤ 1048576) :
    Con Tryz.prog 47 [.sl a.length (avs a), .int k] (.own 2 a.length (avs (scalS a k))) := by
  refine con_of_vc Tryz.mixed ⟨8, [], [], []⟩ Tryz.func47 (by decide) rfl (by simp) (by decide) (by simp [freshOK, freshL, go_sem]) ?_
  rw [Tryz.ntmps47]
  simp [go_sem]
  refine loop_inv (5 :: 7 :: List.range' 11 13) (fun i : Nat => [(5, .own 2 i (avs (tb (fun i => a[i]?.getD 0 * (k % 10007) % 10007) i))), (11, .int i)]) (fun i => i ≤ a.length) (fun i => a.length - i) 0 (by simp) (by simp [go_sem]) (by simp [go_sem]) ?_
  intro i hi
  simp [go_sem]
  refine ⟨fun h => ?_, fun h => ?_⟩ <;> simp at h
  · have f1 := mul_fits (ha.get i) (isN_mod k)
    simp [go_sem, avs_drop h]
    refine ⟨⟨h, by rintro rfl; simp at h⟩, ?_⟩
    refine CallVC.of (num_c _ hk.1 hk.2) (by decide) ?_
    simp [go_sem]
    refine ⟨f1, ?_⟩
    refine CallVC.of (num_c _ f1.1 f1.2) (by decide) ?_
    simp [go_sem]
    exact ⟨by omega, by omega, i + 1, by omega, by omega, Off_reset _ _ _ (by simp), by simp [tb_succ, avs_snoc], by omega⟩
  · have e : i = a.length := by omega
    subst e
    simp [go_sem]
    rfl
theorem Clone_c (xs : List Int) (hl : xs.length ≤ 1048576) : Con Tryz.prog 64 [.sl xs.length (avs xs)] (.own 2 xs.length (avs xs)) := by
  refine con_of_vcN Tryz.mixed ⟨3, [], [], []⟩ Tryz.func64 (by decide) rfl (by simp) (by decide) (by simp [freshOK, freshL, go_sem]) ?_
  rw [Tryz.ntmps64]
  simp [go_sem]
  exact ⟨by omega, by omega⟩
def lowB (A : List (List Int)) (d : Nat) : Bool := (List.range A.length).all fun i => (List.range (A[i]?.getD []).length).all fun k => decide (k < i + d) || decide ((A[i]?.getD [])[k]?.getD 0 = 0)
theorem lowB_no {A : List (List Int)} {d i k : Nat} (hi : i < A.length) (hk : k < (A[i]?.getD []).length) (h1 : i + d ≤ k) (h2 : (A[i]?.getD [])[k]?.getD 0 ≠ 0) : lowB A d = false := by
  unfold lowB
  rw [List.all_eq_false]
  refine ⟨i, by simpa using hi, ?_⟩
  rw [Bool.not_eq_true, List.all_eq_false]
  exact ⟨k, by simpa using hk, by simp [h2]; omega⟩
theorem lowB_yes {A : List (List Int)} {d : Nat} (h : ∀ i, i < A.length → ∀ k, k < (A[i]?.getD []).length → i + d ≤ k → (A[i]?.getD [])[k]?.getD 0 = 0) : lowB A d = true := by
  unfold lowB
  rw [List.all_eq_true]
  intro i hi
  rw [List.all_eq_true]
  intro k hk
  by_cases h1 : k < i + d
  · simp [h1]
  · simp [h i (by simpa using hi) k (by simpa using hk) (by omega)]
set_option maxRecDepth 100000 in
theorem zeroFrom_c (A : List (List Int)) (B : List Int) (d : Nat) (hd : d ≤ 1048576) (hA : A.length ≤ 1048576) (hr : ∀ r ∈ A, r.length ≤ 1048576) :
    Con Tryz.prog 131 [.agg [.sl A.length (mat A), .sl B.length (avs B)], .int d] (.bool (lowB A d)) := by
  refine con_of_vc Tryz.mixed ⟨8, [], [], []⟩ Tryz.func131 (by decide) rfl (by simp) (by decide) (by simp [freshOK, freshL, go_sem]) ?_
  rw [Tryz.ntmps131]
  simp [go_sem]
  refine loop_inv (4 :: 5 :: 6 :: 7 :: List.range' 11 20) (fun i : Nat => [(11, .int i)]) (fun i => i ≤ A.length ∧ ∀ j, j < i → ∀ k, k < (A[j]?.getD []).length → j + d ≤ k → (A[j]?.getD [])[k]?.getD 0 = 0) (fun i => A.length - i) 0 (by simp) (by simp [go_sem]) (by simp [go_sem]) ?_
  rintro i ⟨hi, hp⟩
  simp [go_sem]
  refine ⟨fun h => ?_, fun h => ?_⟩ <;> simp at h
  · have hif := h
    have hx : A[i]?.getD [] ∈ A := by simp [h]
    have hrl := hr _ hx
    simp [go_sem, mat_drop hif]
    refine ⟨⟨hif, by rintro rfl; simp at hif⟩, by omega, ?_⟩
    generalize hR : A[i]?.getD [] = row at *
    refine loop_inv (4 :: 7 :: List.range' 19 11) (fun k : Nat => [(7, .int k)]) (fun k => i + d ≤ k ∧ (k ≤ row.length ∨ k = i + d) ∧ ∀ j, j < k → i + d ≤ j → j < row.length → row[j]?.getD 0 = 0) (fun k => row.length - k) (i + d) ⟨Nat.le_refl _, .inr rfl, fun j h1 h2 => by omega⟩ (by simp [go_sem]) (by simp [go_sem]) ?_
    rintro k ⟨hk1, hk2, hq⟩
    simp [go_sem]
    refine ⟨fun h => ?_, fun h => ?_⟩ <;> simp at h
    · have hkl := h
      simp [go_sem, avs_drop hkl]
      refine ⟨⟨hkl, by rintro rfl; simp at hkl⟩, ?_⟩
      by_cases h0 : row[k]?.getD 0 = 0
      · simp [go_sem, h0]
        refine ⟨by omega, k + 1, ⟨by omega, by omega, fun j h1 h2 h3 => ?_⟩, by omega, Off_reset _ _ _ (by simp), by omega⟩
        by_cases e : j = k
        · rw [e]; exact h0
        · exact hq j (by omega) h2 h3
      · simp [go_sem, h0]
        rw [lowB_no hif (by rw [hR]; exact hkl) hk1 (by rw [hR]; exact h0)]
    · simp [go_sem]
      refine ⟨by omega, i + 1, ⟨by omega, fun j h1 k2 h2 h3 => ?_⟩, by omega, (Off.reset (by intro x hx; simp at hx ⊢; omega) (by simp) (by simp [go_sem, Off_reset])), by omega⟩
      by_cases e : j = i
      · subst e; rw [hR] at h2 ⊢; exact hq k2 (by omega) h3 h2
      · exact hp j (by omega) k2 h2 h3
  · simp [go_sem]
    rw [lowB_yes (fun j hj => hp j (by omega))]
set_option maxRecDepth 100000 in
theorem l09Lower_c (A : List (List Int)) (B : List Int) (d : Nat) (hd : d ≤ 1048576) (hB : B.length ≤ 1048576) (hA : A.length = B.length) (hr : ∀ r ∈ A, r.length = B.length) :
    Con Tryz.prog 128 [.agg [.sl A.length (mat A), .sl B.length (avs B)], .int d] (.bool (lowB A d)) := by
  refine con_of_vc Tryz.mixed ⟨7, [], [], []⟩ Tryz.func128 (by decide) rfl (by simp) (by decide) (by simp [freshOK, freshL, go_sem]) ?_
  rw [Tryz.ntmps128]
  simp [go_sem]
  refine loop_inv (List.range' 4 29) (fun i : Nat => [(5, .int i)]) (fun i => i ≤ A.length ∧ ∀ j, j < i → ∀ k, k < (A[j]?.getD []).length → j + d ≤ k → (A[j]?.getD [])[k]?.getD 0 = 0) (fun i => A.length - i) 0 (by simp) (by simp [go_sem]) (by simp [go_sem]) ?_
  rintro i ⟨hi, hp⟩
  simp [go_sem]
  refine ⟨fun h => ?_, fun h => ?_⟩ <;> simp at h
  · have hif : i < A.length := by omega
    have hx : A[i]?.getD [] ∈ A := by simp [hif]
    have hrl := hr _ hx
    simp [go_sem]
    refine ⟨by omega, ?_⟩
    refine loop_inv (4 :: 6 :: List.range' 17 16) (fun k : Nat => [(6, .int k)]) (fun k => i + d ≤ k ∧ (k ≤ B.length ∨ k = i + d) ∧ ∀ j, j < k → i + d ≤ j → j < B.length → (A[i]?.getD [])[j]?.getD 0 = 0) (fun k => B.length - k) (i + d) ⟨Nat.le_refl _, .inr rfl, fun j h1 h2 => by omega⟩ (by simp [go_sem]) (by simp [go_sem]) ?_
    rintro k ⟨hk1, hk2, hq⟩
    simp [go_sem]
    refine ⟨fun h => ?_, fun h => ?_⟩ <;> simp at h
    · have hkl : k < (A[i]?.getD []).length := by omega
      simp [go_sem, mat_drop hif, avs_drop hkl]
      refine ⟨⟨hif, by rintro rfl; simp at hif⟩, ⟨hkl, fun e => by rw [e] at hkl; simp at hkl⟩, ?_⟩
      by_cases h0 : (A[i]?.getD [])[k]?.getD 0 = 0
      · simp [go_sem, h0]
        refine ⟨by omega, k + 1, ⟨by omega, by omega, fun j h1 h2 h3 => ?_⟩, by omega, Off_reset _ _ _ (by simp), by omega⟩
        by_cases e : j = k
        · rw [e]; exact h0
        · exact hq j (by omega) h2 h3
      · simp [go_sem, h0]
        rw [lowB_no hif hkl hk1 h0]
    · simp [go_sem]
      refine ⟨by omega, i + 1, ⟨by omega, fun j h1 k2 h2 h3 => ?_⟩, by omega, (Off.reset (by intro x hx; simp at hx ⊢; omega) (by simp) (by simp [go_sem, Off_reset])), by omega⟩
      by_cases e : j = i
      · subst e; exact hq k2 (by omega) h3 (by omega)
      · exact hp j (by omega) k2 h2 h3
  · simp [go_sem]
    rw [lowB_yes (fun j hj => hp j (by omega))]
end Go.Proofs.YtbeekabpflaihaaGreat


namespace Go.Proofs.YtbeekabpflaihaaGreat
open Go.Abs
set_option linter.unusedSectionVars false
set_option linter.unusedVariables false
set_option linter.unusedSimpArgs false
set_option maxHeartbeats 1000000
@[go_sem] theorem klW_bor (W : List Nat) (s : Nat) (p : List Nat) : kl W (.bor s p) = if W.contains s then .any else .bor s p := by rw [kl]
@[go_sem] theorem klW_ptr (W : List Nat) (s : Nat) (p : List Nat) (o : Nat) : kl W (.ptr s p o) = if W.contains s then .any else .ptr s p o := by rw [kl]
def plF (h : Int) (row : List Int) (vs : List (List Int)) (y : List Int) : Nat → List Int
  | 0 => y
  | k + 1 => plusS (plF h row vs y k) (vs[k]?.getD []) (h * row[k]?.getD 0 % 10007)
def exF (A : List (List Int)) (B : List Int) (f : List (List Mon)) (y : List Int) (h : Int) : Nat → List (List Int) × List Int
  | 0 => ([], y)
  | i + 1 => ((exF A B f y h i).1 ++ [evL (plF h (A[i]?.getD []) (exF A B f y h i).1 y i) f], plusS (exF A B f y h i).2 (evL (plF h (A[i]?.getD []) (exF A B f y h i).1 y i) f) (h * B[i]?.getD 0 % 10007))
theorem plF_len (h : Int) (row : List Int) (vs : List (List Int)) (y : List Int) : ∀ k, (plF h row vs y k).length = y.length
  | 0 => rfl
  | k + 1 => by rw [plF, plusS_len, plF_len h row vs y k]
theorem plF_N {h : Int} {row : List Int} {vs : List (List Int)} {y : List Int} (hy : Ns y) : ∀ k, Ns (plF h row vs y k)
  | 0 => hy
  | k + 1 => plusS_N _ _ _
theorem evL_N (y : List Int) (f : List (List Mon)) : Ns (evL y f) := by
  intro x hx
  obtain ⟨p, _, rfl⟩ := List.mem_map.1 hx
  exact isN_mod _
theorem exF_len1 (A : List (List Int)) (B : List Int) (f : List (List Mon)) (y : List Int) (h : Int) : ∀ i, (exF A B f y h i).1.length = i
  | 0 => rfl
  | i + 1 => by simp [exF, exF_len1 A B f y h i]
theorem exF_mem {A : List (List Int)} {B : List Int} {f : List (List Mon)} {y : List Int} {h : Int} : ∀ i, ∀ v ∈ (exF A B f y h i).1, v.length = f.length ∧ Ns v
  | 0 => by simp [exF]
  | i + 1 => by
    intro v hv
    rw [exF] at hv
    rcases List.mem_append.1 hv with hv | hv
    · exact exF_mem i v hv
    · simp at hv; subst hv; exact ⟨by simp, evL_N _ _⟩
theorem exF_len2 (A : List (List Int)) (B : List Int) (f : List (List Mon)) (y : List Int) (h : Int) : ∀ i, (exF A B f y h i).2.length = y.length
  | 0 => rfl
  | i + 1 => by simp [exF, exF_len2 A B f y h i]
theorem exF_N2 {A : List (List Int)} {B : List Int} {f : List (List Mon)} {y : List Int} {h : Int} (hy : Ns y) : ∀ i, Ns (exF A B f y h i).2
  | 0 => hy
  | i + 1 => plusS_N _ _ _
theorem omat_get {A : List (List Int)} {k : Nat} (h : k < A.length) : (omat A)[k]? = some (.own 2 (A[k]?.getD []).length (avs (A[k]?.getD []))) := by simp [omat, h]
theorem omat_snoc_get {A : List (List Int)} {v : List Int} {n : Nat} {i : Nat} (h : A.length = i) (hn : v.length = n) : (omat A ++ [.own 2 n (avs v)])[i]? = some (.own 2 n (avs v)) := by
  rw [List.getElem?_append_right (by simp; omega)]
  simp [h]
set_option maxRecDepth 100000 in
theorem explicitStep_c (z : Int) (A : List (List Int)) (B : List Int) (f : List (List Mon)) (y : List Int) (s : Int) (hT : tabB A B = true) (hf : FieldOk z f) (hs : Small f) (hy : Ns y) (hl : (y.length : Int) = z) (hh : isN s) :
    Con Tryz.prog 65 [.agg [.sl A.length (mat A), .sl B.length (avs B)], .sl f.length (fpols f), .sl y.length (avs y), .int s] (.own 2 y.length (avs (exF A B f y s A.length).2)) := by
  have fl := hs.1
  have z3 := hf.hi
  have hfl := hf.len
  have hT2 := hT
  unfold tabB at hT2
  simp only [Bool.and_eq_true, decide_eq_true_eq, List.all_eq_true] at hT2
  obtain ⟨⟨⟨hB1, hB8, hAB⟩, hBN⟩, hrows⟩ := hT2
  have hBN := numsB_N.1 hBN
  refine con_of_vc Tryz.mixed ⟨16, [], [], []⟩ Tryz.func65 (by decide) rfl (by simp) (by decide) (by simp [freshOK, freshL, go_sem]) ?_
  rw [Tryz.ntmps65]
  simp [go_sem]
  refine CallVC.of (Clone_c y (by omega)) (by decide) ?_
  simp [go_sem]
  refine loop_inv (List.range' 9 7 ++ List.range' 22 46) (fun i : Nat => [(9, .own 22 i (omat (exF A B f y s i).1)), (10, .own 2 y.length (avs (exF A B f y s i).2)), (22, .int i)]) (fun i => i ≤ A.length) (fun i => A.length - i) 0 (by simp) (by simp [go_sem, exF, omat_nil]) (by simp [go_sem]) ?_
  intro i hi
  simp [go_sem]
  refine ⟨fun h => ?_, fun h => ?_⟩ <;> simp at h
  · have hif := h
    have hx : A[i]?.getD [] ∈ A := by simp [h]
    have hrl : (A[i]?.getD []).length = B.length := (hrows _ hx).1
    have hrN : Ns (A[i]?.getD []) := numsB_N.1 (hrows _ hx).2
    have v1 := exF_len1 A B f y s i
    have v2 := exF_mem (A := A) (B := B) (f := f) (y := y) (h := s) i
    have v3 := exF_len2 A B f y s i
    have v4 := exF_N2 (A := A) (B := B) (f := f) (h := s) hy i
    have hE : exF A B f y s (i + 1) = ((exF A B f y s i).1 ++ [evL (plF s (A[i]?.getD []) (exF A B f y s i).1 y i) f], plusS (exF A B f y s i).2 (evL (plF s (A[i]?.getD []) (exF A B f y s i).1 y i) f) (s * B[i]?.getD 0 % 10007)) := rfl
    generalize exF A B f y s i = p at *
    obtain ⟨vs, o⟩ := p
    simp only at v1 v2 v3 v4 hE
    simp [go_sem, mat_drop hif]
    refine ⟨⟨hif, by rintro rfl; simp at hif⟩, ?_⟩
    generalize A[i]?.getD [] = row at *
    refine CallVC.of (Clone_c y (by omega)) (by decide) ?_
    simp [go_sem]
    refine loop_inv (13 :: 14 :: 15 :: List.range' 31 16) (fun k : Nat => [(13, .own 2 y.length (avs (plF s row vs y k))), (31, .int k)]) (fun k => k ≤ i) (fun k => i - k) 0 (by simp) (by simp [go_sem, plF]) (by simp [go_sem]) ?_
    intro k hk
    simp [go_sem]
    refine ⟨fun h => ?_, fun h => ?_⟩ <;> simp at h
    · have hkv : k < vs.length := by omega
      have hkr : k < row.length := by omega
      have hg := omat_get hkv
      have hvk := v2 (vs[k]?.getD []) (by simp [hkv])
      have m1 := mul_fits hh (hrN.get k)
      have q1 := plF_len s row vs y k
      have q2 := plF_N (h := s) (row := row) (vs := vs) hy k
      have fm : fits (s * row[k]?.getD 0 % 10007) := by have := isN_mod (s * row[k]?.getD 0); obtain ⟨x0, x1⟩ := this; exact ⟨by omega, by omega⟩
      have cP := plus_c (plF s row vs y k) (vs[k]?.getD []) (s * row[k]?.getD 0 % 10007) q2 hvk.2 fm (by omega) (by omega)
      have hpl : plF s row vs y (k + 1) = plusS (plF s row vs y k) (vs[k]?.getD []) (s * row[k]?.getD 0 % 10007) := rfl
      rw [q1] at cP
      generalize plF s row vs y k = P at *
      generalize vs[k]?.getD [] = vk at *
      simp [go_sem, hg, avs_drop hkr]
      refine ⟨by omega, ⟨hkr, by rintro rfl; simp at hkr⟩, m1, ?_⟩
      refine CallVC.of (num_c _ m1.1 m1.2) (by decide) ?_
      simp [go_sem]
      simp [go_sem, hg]
      refine CallVC.of (cP) (by decide) ?_
      simp [go_sem]
      exact ⟨by omega, k + 1, by omega, by omega, Off_reset _ _ _ (by simp), by rw [hpl], by omega⟩
    · have e : k = i := by omega
      subst e
      have hbk : k < B.length := by omega
      have m1 := mul_fits hh (hBN.get k)
      have q1 := plF_len s row vs y k
      have q2 := plF_N (h := s) (row := row) (vs := vs) hy k
      have cV := valuesAt_c z f (plF s row vs y k) hf hs q2 (by rw [q1]; exact hl)
      rw [q1] at cV
      have fm : fits (s * B[k]?.getD 0 % 10007) := by have := isN_mod (s * B[k]?.getD 0); obtain ⟨x0, x1⟩ := this; exact ⟨by omega, by omega⟩
      have cP := plus_c o (evL (plF s row vs y k) f) (s * B[k]?.getD 0 % 10007) v4 (evL_N _ _) fm (by omega) (by simp; omega)
      have hsg := omat_snoc_get (A := vs) (v := evL (plF s row vs y k) f) (n := f.length) v1 (by simp)
      have hso : omat vs ++ [.own 2 f.length (avs (evL (plF s row vs y k) f))] = omat (vs ++ [evL (plF s row vs y k) f]) := by rw [omat_app, omat_one]; simp
      rw [v3, evL_len] at cP
      generalize evL (plF s row vs y k) f = ev at *
      simp [go_sem]
      refine CallVC.of (cV) (by decide) ?_
      simp [go_sem]
      simp [go_sem, hsg, avs_drop hbk]
      refine ⟨⟨v1, by omega, by omega⟩, by kernel_rfl, by omega, ⟨hbk, by rintro rfl; simp at hbk⟩, m1, ?_⟩
      refine CallD.of (num_c _ m1.1 m1.2) (by simp [roots, rootsL]) (by decide) ?_
      simp [go_sem]
      simp [go_sem, hsg]
      refine CallD.of (cP) (by simp [roots, rootsL]) (by decide) ?_
      simp [go_sem]
      refine ⟨by kernel_rfl, ?_⟩
      simp [go_sem]
      refine ⟨by omega, k + 1, by omega, by omega, (Off.reset (by intro x hx; simp at hx ⊢; omega) (by simp) (by simp [go_sem, Off_reset])), ?_⟩
      rw [hE]
      exact ⟨⟨rfl, hso⟩, rfl, by omega⟩
  · simp [go_sem]
    have e : i = A.length := by omega
    subst e; rfl
theorem add_times {a b : List Int} {k : Int} (hk : isN k) (h : a.length ≤ b.length) :
    tb (fun i => (a[i]?.getD 0 + (tb (fun j => b[j]?.getD 0 * k % 10007) b.length)[i]?.getD 0) % 10007) a.length = plusS a b k := by
  unfold plusS
  unfold tb
  refine List.map_congr_left fun i hi => ?_
  have hi2 : i < b.length := by simp at hi; omega
  have e := tb_get (fun j => b[j]?.getD 0 * k % 10007) hi2
  unfold tb at e
  simp only [e]
  rw [Int.emod_eq_of_lt hk.1 (by have := hk.2; omega), Int.mul_comm k]
  omega
set_option maxRecDepth 100000 in
theorem l15Explicit_c (z : Int) (A : List (List Int)) (B : List Int) (f : List (List Mon)) (y : List Int) (s : Int) (hT : tabB A B = true) (hf : FieldOk z f) (hs : Small f) (hy : Ns y) (hl : (y.length : Int) = z) (hh : isN s) :
    Con Tryz.prog 130 [.agg [.sl A.length (mat A), .sl B.length (avs B)], .agg [.int z, .sl f.length (prt f)], .sl y.length (avs y), .int s] (.own 2 y.length (avs (exF A B f y s A.length).2)) := by
  have fl := hs.1
  have z3 := hf.hi
  have hfl := hf.len
  have hT2 := hT
  unfold tabB at hT2
  simp only [Bool.and_eq_true, decide_eq_true_eq, List.all_eq_true] at hT2
  obtain ⟨⟨⟨hB1, hB8, hAB⟩, hBN⟩, hrows⟩ := hT2
  have hBN := numsB_N.1 hBN
  refine con_of_vc Tryz.mixed ⟨14, [], [], []⟩ Tryz.func130 (by decide) rfl (by simp) (by decide) (by simp [freshOK, freshL, go_sem]) ?_
  rw [Tryz.ntmps130]
  simp [go_sem]
  refine CallVC.of (l01Own_c y (by omega)) (by decide) ?_
  simp [go_sem]
  refine loop_inv (List.range' 9 5 ++ List.range' 17 51) (fun i : Nat => [(9, .own 22 i (omat (exF A B f y s i).1)), (10, .own 2 y.length (avs (exF A B f y s i).2)), (11, .int i)]) (fun i => i ≤ A.length) (fun i => A.length - i) 0 (by simp) (by simp [go_sem, exF, omat_nil]) (by simp [go_sem]) ?_
  intro i hi
  simp [go_sem]
  refine ⟨fun h => ?_, fun h => ?_⟩ <;> simp at h
  · have hif : i < A.length := by omega
    have hx : A[i]?.getD [] ∈ A := by simp [hif]
    have hrl : (A[i]?.getD []).length = B.length := (hrows _ hx).1
    have hrN : Ns (A[i]?.getD []) := numsB_N.1 (hrows _ hx).2
    have v1 := exF_len1 A B f y s i
    have v2 := exF_mem (A := A) (B := B) (f := f) (y := y) (h := s) i
    have v3 := exF_len2 A B f y s i
    have v4 := exF_N2 (A := A) (B := B) (f := f) (h := s) hy i
    have hE : exF A B f y s (i + 1) = ((exF A B f y s i).1 ++ [evL (plF s (A[i]?.getD []) (exF A B f y s i).1 y i) f], plusS (exF A B f y s i).2 (evL (plF s (A[i]?.getD []) (exF A B f y s i).1 y i) f) (s * B[i]?.getD 0 % 10007)) := rfl
    generalize exF A B f y s i = p at *
    obtain ⟨vs, o⟩ := p
    simp only at v1 v2 v3 v4 hE
    simp [go_sem]
    refine CallVC.of (l01Own_c y (by omega)) (by decide) ?_
    simp [go_sem]
    refine loop_inv (12 :: 13 :: List.range' 26 22) (fun k : Nat => [(12, .own 2 y.length (avs (plF s (A[i]?.getD []) vs y k))), (13, .int k)]) (fun k => k ≤ i) (fun k => i - k) 0 (by simp) (by simp [go_sem, plF]) (by simp [go_sem]) ?_
    intro k hk
    simp [go_sem]
    refine ⟨fun h => ?_, fun h => ?_⟩ <;> simp at h
    · have hkv : k < vs.length := by omega
      have hkr : k < (A[i]?.getD []).length := by omega
      have hg := omat_get hkv
      have hvk := v2 (vs[k]?.getD []) (by simp [hkv])
      have m1 := mul_fits hh (hrN.get k)
      have q1 := plF_len s (A[i]?.getD []) vs y k
      have q2 := plF_N (h := s) (row := A[i]?.getD []) (vs := vs) hy k
      have mN := isN_mod (s * (A[i]?.getD [])[k]?.getD 0)
      have cT := l02Times_c (vs[k]?.getD []) _ hvk.2 mN (by omega)
      have cA := l02Add_c (plF s (A[i]?.getD []) vs y k) (tb (fun j => (vs[k]?.getD [])[j]?.getD 0 * (s * (A[i]?.getD [])[k]?.getD 0 % 10007) % 10007) (vs[k]?.getD []).length) q2 (tb_N fun i _ => isN_mod _) (by omega) (by simp; omega)
      rw [add_times mN (by omega)] at cA
      have cM := l01Mul_c s ((A[i]?.getD [])[k]?.getD 0) m1
      have hpl : plF s (A[i]?.getD []) vs y (k + 1) = plusS (plF s (A[i]?.getD []) vs y k) (vs[k]?.getD []) (s * (A[i]?.getD [])[k]?.getD 0 % 10007) := rfl
      rw [q1, show (tb (fun j => (vs[k]?.getD [])[j]?.getD 0 * (s * (A[i]?.getD [])[k]?.getD 0 % 10007) % 10007) (vs[k]?.getD []).length).length = (vs[k]?.getD []).length by simp] at cA
      generalize plF s (A[i]?.getD []) vs y k = P at *
      generalize vs[k]?.getD [] = vk at *
      simp [go_sem, hg, mat_drop hif, avs_drop hkr]
      refine ⟨by kernel_rfl, by omega, ⟨hif, by rintro rfl; simp at hif⟩, ⟨hkr, by intro e; simp [e] at hkr⟩, ?_⟩
      refine CallD.of (cM) (by simp [roots, rootsL]) (by decide) ?_
      simp [go_sem]
      simp [go_sem, hg]
      refine CallD.of (cT) (by simp [roots, rootsL]) (by decide) ?_
      simp [go_sem]
      refine CallD.of (cA) (by simp [roots, rootsL]) (by decide) ?_
      simp [go_sem]
      refine ⟨by kernel_rfl, ?_⟩
      simp [go_sem]
      exact ⟨by omega, k + 1, by omega, by omega, Off_reset _ _ _ (by simp), by rw [hpl], by omega⟩
    · have e : k = i := by omega
      subst e
      have hbk : k < B.length := by omega
      have m1 := mul_fits hh (hBN.get k)
      have q1 := plF_len s (A[k]?.getD []) vs y k
      have q2 := plF_N (h := s) (row := A[k]?.getD []) (vs := vs) hy k
      have cV := l13Field_c z f (plF s (A[k]?.getD []) vs y k) hf hs q2 (by rw [q1]; exact hl)
      rw [q1] at cV
      have eN := evL_N (plF s (A[k]?.getD []) vs y k) f
      have hsg := omat_snoc_get (A := vs) (v := evL (plF s (A[k]?.getD []) vs y k) f) (n := f.length) v1 (by simp)
      have hso : omat vs ++ [.own 2 f.length (avs (evL (plF s (A[k]?.getD []) vs y k) f))] = omat (vs ++ [evL (plF s (A[k]?.getD []) vs y k) f]) := by rw [omat_app, omat_one]; simp
      have el := evL_len (plF s (A[k]?.getD []) vs y k) f
      generalize evL (plF s (A[k]?.getD []) vs y k) f = ev at *
      have mN := isN_mod (s * B[k]?.getD 0)
      have cT := l02Times_c ev _ eN mN (by omega)
      have cA := l02Add_c o (tb (fun j => ev[j]?.getD 0 * (s * B[k]?.getD 0 % 10007) % 10007) ev.length) v4 (tb_N fun i _ => isN_mod _) (by omega) (by simp; omega)
      rw [add_times mN (by omega)] at cA
      rw [v3, show (tb (fun j => ev[j]?.getD 0 * (s * B[k]?.getD 0 % 10007) % 10007) ev.length).length = f.length by simp [el]] at cA
      rw [el] at cT cA
      have cM := l01Mul_c s (B[k]?.getD 0) m1
      simp [go_sem]
      refine CallVC.of (cV) (by decide) ?_
      simp [go_sem]
      simp [go_sem, hsg, avs_drop hbk]
      refine ⟨⟨v1, by omega, by omega⟩, by kernel_rfl, by omega, ⟨hbk, by rintro rfl; simp at hbk⟩, ?_⟩
      refine CallD.of (cM) (by simp [roots, rootsL]) (by decide) ?_
      simp [go_sem]
      simp [go_sem, hsg]
      refine CallD.of (cT) (by simp [roots, rootsL]) (by decide) ?_
      simp [go_sem]
      refine CallD.of (cA) (by simp [roots, rootsL]) (by decide) ?_
      simp [go_sem]
      refine ⟨by kernel_rfl, ?_⟩
      simp [go_sem]
      refine ⟨by omega, k + 1, by omega, by omega, (Off.reset (by intro x hx; simp at hx ⊢; omega) (by simp) (by simp [go_sem, Off_reset])), ?_⟩
      rw [hE]
      exact ⟨⟨rfl, hso⟩, rfl, by omega⟩
  · simp [go_sem]
    have e : i = A.length := by omega
    subst e; rfl
end Go.Proofs.YtbeekabpflaihaaGreat


namespace Go.Proofs.YtbeekabpflaihaaGreat
open Go.Abs
set_option linter.unusedSectionVars false
set_option linter.unusedVariables false
set_option linter.unusedSimpArgs false
set_option maxHeartbeats 1000000
def itF (A : List (List Int)) (B : List Int) (f : List (List Mon)) (y : List Int) (h : Int) : Nat → List Int
  | 0 => y
  | i + 1 => (exF A B f (itF A B f y h i) h A.length).2
theorem itF_len (A : List (List Int)) (B : List Int) (f : List (List Mon)) (y : List Int) (h : Int) : ∀ i, (itF A B f y h i).length = y.length
  | 0 => rfl
  | i + 1 => by rw [itF, exF_len2, itF_len A B f y h i]
theorem itF_N {A : List (List Int)} {B : List Int} {f : List (List Mon)} {y : List Int} {h : Int} (hy : Ns y) : ∀ i, Ns (itF A B f y h i)
  | 0 => hy
  | i + 1 => exF_N2 (itF_N hy i) _
def stE (A : List (List Int)) (B : List Int) (z : Int) (f : List (List Mon)) (y : List Int) : Int := if (tabB A B && fieldB z f) = false then 1 else if vecB z y = false then 2 else 0
def rsE (A : List (List Int)) (B : List Int) (z : Int) (f : List (List Mon)) (y : List Int) (h n : Int) : Int := if stE A B z f y = 0 then (if (0 ≤ h ∧ h ≤ 10006) ∧ 0 ≤ n ∧ n ≤ 1000 then (if lowB A 0 = true then 0 else 5) else 2) else stE A B z f y
def rsX (A : List (List Int)) (B : List Int) (z : Int) (f : List (List Mon)) (y : List Int) (h n : Int) : List Int := if rsE A B z f y h n = 0 then itF A B f y h n.toNat else []
def rsR (A : List (List Int)) (B : List Int) (z : Int) (f : List (List Mon)) (y : List Int) (h n : Int) : AV := .tup [.own 2 (rsX A B z f y h n).length (avs (rsX A B z f y h n)), .int (rsE A B z f y h n)]
theorem l15Code_c (A : List (List Int)) (B : List Int) (z : Int) (f : List (List Mon)) (y : List Int) (hA : A.length ≤ 1048576) (hB : B.length ≤ 1048576) (hr : ∀ r ∈ A, r.length ≤ 1048576) (hs : Small f) (hy : y.length ≤ 1048576) :
    Con Tryz.prog 126 [.agg [.sl A.length (mat A), .sl B.length (avs B)], .agg [.int z, .sl f.length (prt f)], .sl y.length (avs y)] (.int (stE A B z f y)) := by
  have cA := l09Is_c A B (by omega) (by omega) (fun r h => by have := hr r h; omega)
  have cT := l13Is_c z f hs
  have cR := l13Point_c z y (by omega)
  have hvb : (decide ((y.length : Int) = z) && numsB y) = vecB z y := rfl
  rw [hvb] at cR
  unfold stE
  generalize tabB A B = a at *
  generalize fieldB z f = b at *
  generalize vecB z y = c at *
  cases a <;> cases b <;> cases c
  all_goals simp only [Bool.and_self, Bool.and_false, Bool.false_and, Bool.true_and, Bool.false_eq_true, if_true, if_false, reduceCtorEq]
  · refine con_of_vc Tryz.mixed ⟨7, [], [], []⟩ Tryz.func126 (by decide) rfl (by simp) (by decide) (by simp [freshOK, freshL, go_sem]) ?_
    rw [Tryz.ntmps126]
    simp [go_sem]
    refine CallVC.of (cA) (by decide) ?_
    simp [go_sem]
  · refine con_of_vc Tryz.mixed ⟨7, [], [], []⟩ Tryz.func126 (by decide) rfl (by simp) (by decide) (by simp [freshOK, freshL, go_sem]) ?_
    rw [Tryz.ntmps126]
    simp [go_sem]
    refine CallVC.of (cA) (by decide) ?_
    simp [go_sem]
  · refine con_of_vc Tryz.mixed ⟨7, [], [], []⟩ Tryz.func126 (by decide) rfl (by simp) (by decide) (by simp [freshOK, freshL, go_sem]) ?_
    rw [Tryz.ntmps126]
    simp [go_sem]
    refine CallVC.of (cA) (by decide) ?_
    simp [go_sem]
  · refine con_of_vc Tryz.mixed ⟨7, [], [], []⟩ Tryz.func126 (by decide) rfl (by simp) (by decide) (by simp [freshOK, freshL, go_sem]) ?_
    rw [Tryz.ntmps126]
    simp [go_sem]
    refine CallVC.of (cA) (by decide) ?_
    simp [go_sem]
  · refine con_of_vc Tryz.mixed ⟨7, [], [], []⟩ Tryz.func126 (by decide) rfl (by simp) (by decide) (by simp [freshOK, freshL, go_sem]) ?_
    rw [Tryz.ntmps126]
    simp [go_sem]
    refine CallVC.of (cA) (by decide) ?_
    simp [go_sem]
    refine CallVC.of (cT) (by decide) ?_
    simp [go_sem]
  · refine con_of_vc Tryz.mixed ⟨7, [], [], []⟩ Tryz.func126 (by decide) rfl (by simp) (by decide) (by simp [freshOK, freshL, go_sem]) ?_
    rw [Tryz.ntmps126]
    simp [go_sem]
    refine CallVC.of (cA) (by decide) ?_
    simp [go_sem]
    refine CallVC.of (cT) (by decide) ?_
    simp [go_sem]
  · refine con_of_vc Tryz.mixed ⟨7, [], [], []⟩ Tryz.func126 (by decide) rfl (by simp) (by decide) (by simp [freshOK, freshL, go_sem]) ?_
    rw [Tryz.ntmps126]
    simp [go_sem]
    refine CallVC.of (cA) (by decide) ?_
    simp [go_sem]
    refine CallVC.of (cT) (by decide) ?_
    simp [go_sem]
    refine CallVC.of (cR) (by decide) ?_
    simp [go_sem]
  · refine con_of_vc Tryz.mixed ⟨7, [], [], []⟩ Tryz.func126 (by decide) rfl (by simp) (by decide) (by simp [freshOK, freshL, go_sem]) ?_
    rw [Tryz.ntmps126]
    simp [go_sem]
    refine CallVC.of (cA) (by decide) ?_
    simp [go_sem]
    refine CallVC.of (cT) (by decide) ?_
    simp [go_sem]
    refine CallVC.of (cR) (by decide) ?_
    simp [go_sem]
theorem checkStep_c (A : List (List Int)) (B : List Int) (z : Int) (f : List (List Mon)) (y : List Int) (hA : A.length ≤ 1048576) (hB : B.length ≤ 1048576) (hr : ∀ r ∈ A, r.length ≤ 1048576) (hs : Small f) (hy : y.length ≤ 1048576) :
    Con Tryz.prog 79 [.agg [.sl A.length (mat A), .sl B.length (avs B)], .agg [.int z, .sl f.length (prt f)], .sl y.length (avs y)] (.int (stE A B z f y)) := by
  have cA := IsTableau_c A B (by omega) (by omega) (fun r h => by have := hr r h; omega)
  have cT := IsField_c z f hs
  have cR := isVector_c z f.length (prt f) y (by omega)
  unfold stE
  generalize tabB A B = a at *
  generalize fieldB z f = b at *
  generalize vecB z y = c at *
  cases a <;> cases b <;> cases c
  all_goals simp only [Bool.and_self, Bool.and_false, Bool.false_and, Bool.true_and, Bool.false_eq_true, if_true, if_false, reduceCtorEq]
  · refine con_of_vc Tryz.mixed ⟨7, [], [], []⟩ Tryz.func79 (by decide) rfl (by simp) (by decide) (by simp [freshOK, freshL, go_sem]) ?_
    rw [Tryz.ntmps79]
    simp [go_sem]
    refine CallVC.of (cA) (by decide) ?_
    simp [go_sem]
  · refine con_of_vc Tryz.mixed ⟨7, [], [], []⟩ Tryz.func79 (by decide) rfl (by simp) (by decide) (by simp [freshOK, freshL, go_sem]) ?_
    rw [Tryz.ntmps79]
    simp [go_sem]
    refine CallVC.of (cA) (by decide) ?_
    simp [go_sem]
  · refine con_of_vc Tryz.mixed ⟨7, [], [], []⟩ Tryz.func79 (by decide) rfl (by simp) (by decide) (by simp [freshOK, freshL, go_sem]) ?_
    rw [Tryz.ntmps79]
    simp [go_sem]
    refine CallVC.of (cA) (by decide) ?_
    simp [go_sem]
  · refine con_of_vc Tryz.mixed ⟨7, [], [], []⟩ Tryz.func79 (by decide) rfl (by simp) (by decide) (by simp [freshOK, freshL, go_sem]) ?_
    rw [Tryz.ntmps79]
    simp [go_sem]
    refine CallVC.of (cA) (by decide) ?_
    simp [go_sem]
  · refine con_of_vc Tryz.mixed ⟨7, [], [], []⟩ Tryz.func79 (by decide) rfl (by simp) (by decide) (by simp [freshOK, freshL, go_sem]) ?_
    rw [Tryz.ntmps79]
    simp [go_sem]
    refine CallVC.of (cA) (by decide) ?_
    simp [go_sem]
    refine CallVC.of (cT) (by decide) ?_
    simp [go_sem]
  · refine con_of_vc Tryz.mixed ⟨7, [], [], []⟩ Tryz.func79 (by decide) rfl (by simp) (by decide) (by simp [freshOK, freshL, go_sem]) ?_
    rw [Tryz.ntmps79]
    simp [go_sem]
    refine CallVC.of (cA) (by decide) ?_
    simp [go_sem]
    refine CallVC.of (cT) (by decide) ?_
    simp [go_sem]
  · refine con_of_vc Tryz.mixed ⟨7, [], [], []⟩ Tryz.func79 (by decide) rfl (by simp) (by decide) (by simp [freshOK, freshL, go_sem]) ?_
    rw [Tryz.ntmps79]
    simp [go_sem]
    refine CallVC.of (cA) (by decide) ?_
    simp [go_sem]
    refine CallVC.of (cT) (by decide) ?_
    simp [go_sem]
    refine CallVC.of (cR) (by decide) ?_
    simp [go_sem]
  · refine con_of_vc Tryz.mixed ⟨7, [], [], []⟩ Tryz.func79 (by decide) rfl (by simp) (by decide) (by simp [freshOK, freshL, go_sem]) ?_
    rw [Tryz.ntmps79]
    simp [go_sem]
    refine CallVC.of (cA) (by decide) ?_
    simp [go_sem]
    refine CallVC.of (cT) (by decide) ?_
    simp [go_sem]
    refine CallVC.of (cR) (by decide) ?_
    simp [go_sem]
theorem stE_zero {A : List (List Int)} {B : List Int} {z : Int} {f : List (List Mon)} {y : List Int} (h : stE A B z f y = 0) : tabB A B = true ∧ fieldB z f = true ∧ vecB z y = true := by
  unfold stE at h
  generalize tabB A B = a at *
  generalize fieldB z f = b at *
  generalize vecB z y = c at *
  cases a <;> cases b <;> cases c <;> simp_all
theorem checkExplicit_c (A : List (List Int)) (B : List Int) (z : Int) (f : List (List Mon)) (y : List Int) (h n : Int) (hA : A.length ≤ 1048576) (hB : B.length ≤ 1048576) (hr : ∀ r ∈ A, r.length ≤ 1048576) (hs : Small f) (hy : y.length ≤ 1048576) :
    Con Tryz.prog 63 [.agg [.sl A.length (mat A), .sl B.length (avs B)], .agg [.int z, .sl f.length (prt f)], .sl y.length (avs y), .int h, .int n] (.int (rsE A B z f y h n)) := by
  have c1 := checkStep_c A B z f y hA hB hr hs hy
  have c2 := IsNumber_c h
  have c3 := inRange_c n 0 1000
  have c4 := zeroFrom_c A B 0 (by omega) hA hr
  unfold rsE
  generalize stE A B z f y = e at *
  generalize lowB A 0 = l at *
  by_cases he : e = 0
  · subst he
    by_cases hh : 0 ≤ h ∧ h ≤ 10006
    · rw [decide_eq_true hh] at c2
      by_cases hn : 0 ≤ n ∧ n ≤ 1000
      · rw [show (decide (0 ≤ n) && decide (n ≤ 1000)) = true by simp; omega] at c3
        simp only [hh, hn, and_self, if_true]
        cases l
        · simp only [Bool.false_eq_true, if_false]
          refine con_of_vc Tryz.mixed ⟨12, [], [], []⟩ Tryz.func63 (by decide) rfl (by simp) (by decide) (by simp [freshOK, freshL, go_sem]) ?_
          rw [Tryz.ntmps63]
          simp [go_sem]
          refine CallVC.of (c1) (by decide) ?_
          simp [go_sem]
          refine CallVC.of (c2) (by decide) ?_
          simp [go_sem]
          refine CallVC.of (c3) (by decide) ?_
          simp [go_sem]
          refine CallVC.of (c4) (by decide) ?_
          simp [go_sem]
        · simp only [if_true]
          refine con_of_vc Tryz.mixed ⟨12, [], [], []⟩ Tryz.func63 (by decide) rfl (by simp) (by decide) (by simp [freshOK, freshL, go_sem]) ?_
          rw [Tryz.ntmps63]
          simp [go_sem]
          refine CallVC.of (c1) (by decide) ?_
          simp [go_sem]
          refine CallVC.of (c2) (by decide) ?_
          simp [go_sem]
          refine CallVC.of (c3) (by decide) ?_
          simp [go_sem]
          refine CallVC.of (c4) (by decide) ?_
          simp [go_sem]
      · rw [show (decide (0 ≤ n) && decide (n ≤ 1000)) = false by simp; omega] at c3
        rw [if_pos rfl, if_neg (fun x => hn x.2)]
        refine con_of_vc Tryz.mixed ⟨12, [], [], []⟩ Tryz.func63 (by decide) rfl (by simp) (by decide) (by simp [freshOK, freshL, go_sem]) ?_
        rw [Tryz.ntmps63]
        simp [go_sem]
        refine CallVC.of (c1) (by decide) ?_
        simp [go_sem]
        refine CallVC.of (c2) (by decide) ?_
        simp [go_sem]
        refine CallVC.of (c3) (by decide) ?_
        simp [go_sem]
    · rw [decide_eq_false hh] at c2
      rw [if_pos rfl, if_neg (fun x => hh x.1)]
      refine con_of_vc Tryz.mixed ⟨12, [], [], []⟩ Tryz.func63 (by decide) rfl (by simp) (by decide) (by simp [freshOK, freshL, go_sem]) ?_
      rw [Tryz.ntmps63]
      simp [go_sem]
      refine CallVC.of (c1) (by decide) ?_
      simp [go_sem]
      refine CallVC.of (c2) (by decide) ?_
      simp [go_sem]
  · rw [if_neg he]
    refine con_of_vc Tryz.mixed ⟨12, [], [], []⟩ Tryz.func63 (by decide) rfl (by simp) (by decide) (by simp [freshOK, freshL, go_sem]) ?_
    rw [Tryz.ntmps63]
    simp [go_sem]
    refine CallVC.of (c1) (by decide) ?_
    simp [go_sem]
    simp [go_sem, he]
set_option maxRecDepth 100000 in
theorem RunSteps_c (A : List (List Int)) (B : List Int) (z : Int) (f : List (List Mon)) (y : List Int) (s n : Int) (hA : A.length ≤ 1048576) (hB : B.length ≤ 1048576) (hr : ∀ r ∈ A, r.length ≤ 1048576) (hs : Small f) (hy : y.length ≤ 1048576) :
    Con Tryz.prog 23 [.agg [.sl A.length (mat A), .sl B.length (avs B)], .agg [.int z, .sl f.length (prt f)], .sl y.length (avs y), .int s, .int n] (rsR A B z f y s n) := by
  have c1 := checkExplicit_c A B z f y s n hA hB hr hs hy
  unfold rsR rsX
  have hz : rsE A B z f y s n = 0 → stE A B z f y = 0 ∧ (0 ≤ s ∧ s ≤ 10006) ∧ 0 ≤ n ∧ n ≤ 1000 := by
    intro e
    unfold rsE at e
    split at e
    · split at e
      · exact ⟨by assumption, by assumption⟩
      · omega
    · contradiction
  generalize rsE A B z f y s n = e at *
  by_cases he : e = 0
  · subst he
    obtain ⟨hst, hh, hn⟩ := hz rfl
    obtain ⟨hT, hF, hV⟩ := stE_zero hst
    have hF := fieldB_iff.1 hF
    unfold vecB at hV
    simp only [Bool.and_eq_true, decide_eq_true_eq] at hV
    have hyN := numsB_N.1 hV.2
    have fl := hs.1
    rw [if_pos rfl, itF_len]
    refine con_of_vc Tryz.mixed ⟨15, [], [], []⟩ Tryz.func23 (by decide) rfl (by simp) (by decide) (by simp [freshOK, freshL, go_sem]) ?_
    rw [Tryz.ntmps23]
    simp [go_sem]
    refine CallVC.of (c1) (by decide) ?_
    simp [go_sem]
    refine CallVC.of (polynomials_c z f hF hs) (by decide) ?_
    simp [go_sem]
    refine CallVC.of (Clone_c y hy) (by decide) ?_
    simp [go_sem]
    obtain ⟨m, rfl⟩ : ∃ m : Nat, n = m := ⟨n.toNat, by omega⟩
    simp only [Int.toNat_natCast]
    refine loop_inv (14 :: List.range' 29 8) (fun i : Nat => [(14, .own 2 y.length (avs (itF A B f y s i))), (29, .int i)]) (fun i => i ≤ m) (fun i => m - i) 0 (by simp) (by simp [go_sem, itF]) (by simp [go_sem]) ?_
    intro i hi
    simp [go_sem]
    refine ⟨fun h => ?_, fun h => ?_⟩ <;> simp at h
    · have hE := explicitStep_c z A B f (itF A B f y s i) s hT hF hs (itF_N hyN i) (by rw [itF_len]; exact hV.1) ⟨hh.1, by omega⟩
      have hI : itF A B f y s (i + 1) = (exF A B f (itF A B f y s i) s A.length).2 := rfl
      rw [itF_len] at hE
      rw [← hI] at hE
      simp [go_sem]
      refine CallVC.of (hE) (by decide) ?_
      simp [go_sem]
      exact ⟨by omega, i + 1, by omega, by omega, Off_reset _ _ _ (by simp), rfl, by omega⟩
    · simp [go_sem]
      have e : i = m := by omega
      subst e; rfl
  · rw [if_neg he]
    refine Con.n1 _ ?_
    refine con_of_vc Tryz.mixed ⟨15, [], [], []⟩ Tryz.func23 (by decide) rfl (by simp) (by decide) (by simp [freshOK, freshL, go_sem]) ?_
    rw [Tryz.ntmps23]
    simp [go_sem]
    refine CallVC.of (c1) (by decide) ?_
    simp [go_sem]
    simp [go_sem, he]
end Go.Proofs.YtbeekabpflaihaaGreat


namespace Go.Proofs.YtbeekabpflaihaaGreat
open Go.Abs
set_option linter.unusedSectionVars false
set_option linter.unusedVariables false
set_option linter.unusedSimpArgs false
set_option maxHeartbeats 1000000
set_option maxRecDepth 100000 in
theorem specRunSteps_c (A : List (List Int)) (B : List Int) (z : Int) (f : List (List Mon)) (y : List Int) (s n : Int) (hA : A.length ≤ 1048576) (hB : B.length ≤ 1048576) (hr : ∀ r ∈ A, r.length ≤ 1048576) (hs : Small f) (hy : y.length ≤ 1048576) :
    Con Tryz.prog 62 [.agg [.sl A.length (mat A), .sl B.length (avs B)], .agg [.int z, .sl f.length (prt f)], .sl y.length (avs y), .int s, .int n] (rsR A B z f y s n) := by
  have c1 := l15Code_c A B z f y hA hB hr hs hy
  have c2 := specIsNumber_c s
  have c3 := l01In_c n 0 1000
  unfold rsR rsX
  have hrs : rsE A B z f y s n = if stE A B z f y = 0 then (if (0 ≤ s ∧ s ≤ 10006) ∧ 0 ≤ n ∧ n ≤ 1000 then (if lowB A 0 = true then 0 else 5) else 2) else stE A B z f y := rfl
  have hz : stE A B z f y = 0 → tabB A B = true ∧ fieldB z f = true ∧ vecB z y = true := stE_zero
  generalize stE A B z f y = e at *
  by_cases he : e = 0
  · subst he
    obtain ⟨hT, hF, hV⟩ := hz rfl
    have hT2 := hT
    unfold tabB at hT2
    simp only [Bool.and_eq_true, decide_eq_true_eq, List.all_eq_true] at hT2
    obtain ⟨⟨⟨hB1, hB8, hAB⟩, hBN⟩, hrows⟩ := hT2
    have c4 := l09Lower_c A B 0 (by omega) hB hAB (fun r hr => (hrows r hr).1)
    have hF := fieldB_iff.1 hF
    unfold vecB at hV
    simp only [Bool.and_eq_true, decide_eq_true_eq] at hV
    have hyN := numsB_N.1 hV.2
    have fl := hs.1
    rw [if_pos rfl] at hrs
    by_cases hh : 0 ≤ s ∧ s ≤ 10006
    · rw [decide_eq_true hh] at c2
      by_cases hn : 0 ≤ n ∧ n ≤ 1000
      · rw [show (decide (0 ≤ n) && decide (n ≤ 1000)) = true by simp; omega] at c3
        rw [if_pos ⟨hh, hn⟩] at hrs
        cases hl : lowB A 0
        · rw [hl] at c4
          rw [hl, if_neg (by simp)] at hrs
          rw [hrs, if_neg (by omega)]
          refine Con.n1 _ ?_
          refine con_of_vc Tryz.mixed ⟨14, [], [], []⟩ Tryz.func62 (by decide) rfl (by simp) (by decide) (by simp [freshOK, freshL, go_sem]) ?_
          rw [Tryz.ntmps62]
          simp [go_sem]
          refine CallVC.of (c1) (by decide) ?_
          simp -implicitDefEqProofs [go_sem]
          refine CallVC.of (c2) (by decide) ?_
          simp -implicitDefEqProofs [go_sem]
          refine CallVC.of (c3) (by decide) ?_
          simp -implicitDefEqProofs [go_sem]
          refine CallVC.of (c4) (by decide) ?_
          simp -implicitDefEqProofs [go_sem]
        · rw [hl] at c4
          rw [hl, if_pos rfl] at hrs
          rw [hrs, if_pos rfl, itF_len]
          refine con_of_vc Tryz.mixed ⟨14, [], [], []⟩ Tryz.func62 (by decide) rfl (by simp) (by decide) (by simp [freshOK, freshL, go_sem]) ?_
          rw [Tryz.ntmps62]
          simp [go_sem]
          refine CallVC.of (c1) (by decide) ?_
          simp -implicitDefEqProofs [go_sem]
          refine CallVC.of (c2) (by decide) ?_
          simp -implicitDefEqProofs [go_sem]
          refine CallVC.of (c3) (by decide) ?_
          simp -implicitDefEqProofs [go_sem]
          refine CallVC.of (c4) (by decide) ?_
          simp -implicitDefEqProofs [go_sem]
          refine CallVC.of (l01Own_c y (by omega)) (by decide) ?_
          simp -implicitDefEqProofs [go_sem]
          obtain ⟨m, rfl⟩ : ∃ m : Nat, n = m := ⟨n.toNat, by omega⟩
          simp only [Int.toNat_natCast]
          refine loop_inv (4 :: 13 :: List.range' 42 9) (fun i : Nat => [(13, .own 2 y.length (avs (itF A B f y s i))), (4, .int ((m : Int) - i))]) (fun i => i ≤ m) (fun i => m - i) 0 (by simp) (by simp [go_sem, itF]) (by simp [go_sem]) ?_
          intro i hi
          simp -implicitDefEqProofs [go_sem]
          refine ⟨fun h => ?_, fun h => ?_⟩ <;> simp at h
          · have hE := l15Explicit_c z A B f (itF A B f y s i) s hT hF hs (itF_N hyN i) (by rw [itF_len]; exact hV.1) ⟨hh.1, by omega⟩
            have hI : itF A B f y s (i + 1) = (exF A B f (itF A B f y s i) s A.length).2 := rfl
            rw [itF_len] at hE
            rw [← hI] at hE
            simp -implicitDefEqProofs [go_sem]
            refine CallVC.of (hE) (by decide) ?_
            simp -implicitDefEqProofs [go_sem]
            exact ⟨by omega, i + 1, by omega, by omega, Off_reset _ _ _ (by simp), rfl, by omega⟩
          · simp -implicitDefEqProofs [go_sem]
            have e : i = m := by omega
            subst e; rfl
      · rw [show (decide (0 ≤ n) && decide (n ≤ 1000)) = false by simp; omega] at c3
        rw [if_neg (fun x => hn x.2)] at hrs
        rw [hrs, if_neg (by omega)]
        refine Con.n1 _ ?_
        refine con_of_vc Tryz.mixed ⟨14, [], [], []⟩ Tryz.func62 (by decide) rfl (by simp) (by decide) (by simp [freshOK, freshL, go_sem]) ?_
        rw [Tryz.ntmps62]
        simp [go_sem]
        refine CallVC.of (c1) (by decide) ?_
        simp -implicitDefEqProofs [go_sem]
        refine CallVC.of (c2) (by decide) ?_
        simp -implicitDefEqProofs [go_sem]
        refine CallVC.of (c3) (by decide) ?_
        simp -implicitDefEqProofs [go_sem]
    · rw [decide_eq_false hh] at c2
      rw [if_neg (fun x => hh x.1)] at hrs
      rw [hrs, if_neg (by omega)]
      refine Con.n1 _ ?_
      refine con_of_vc Tryz.mixed ⟨14, [], [], []⟩ Tryz.func62 (by decide) rfl (by simp) (by decide) (by simp [freshOK, freshL, go_sem]) ?_
      rw [Tryz.ntmps62]
      simp [go_sem]
      refine CallVC.of (c1) (by decide) ?_
      simp -implicitDefEqProofs [go_sem]
      refine CallVC.of (c2) (by decide) ?_
      simp -implicitDefEqProofs [go_sem]
  · rw [if_neg he] at hrs
    rw [hrs, if_neg he]
    refine Con.n1 _ ?_
    refine con_of_vc Tryz.mixed ⟨14, [], [], []⟩ Tryz.func62 (by decide) rfl (by simp) (by decide) (by simp [freshOK, freshL, go_sem]) ?_
    rw [Tryz.ntmps62]
    simp [go_sem]
    refine CallVC.of (c1) (by decide) ?_
    simp -implicitDefEqProofs [go_sem]
    simp -implicitDefEqProofs [go_sem, he]
end Go.Proofs.YtbeekabpflaihaaGreat


namespace Go.Proofs.YtbeekabpflaihaaGreat
open Go.Abs
set_option linter.unusedSectionVars false
set_option linter.unusedVariables false
set_option linter.unusedSimpArgs false
set_option maxHeartbeats 1000000
theorem ExplicitStep_c (A : List (List Int)) (B : List Int) (z : Int) (f : List (List Mon)) (y : List Int) (s : Int) (hA : A.length ≤ 1048576) (hB : B.length ≤ 1048576) (hr : ∀ r ∈ A, r.length ≤ 1048576) (hs : Small f) (hy : y.length ≤ 1048576) :
    Con Tryz.prog 20 [.agg [.sl A.length (mat A), .sl B.length (avs B)], .agg [.int z, .sl f.length (prt f)], .sl y.length (avs y), .int s] (rsR A B z f y s 1) := by
  have c := RunSteps_c A B z f y s 1 hA hB hr hs hy
  unfold rsR at c ⊢
  generalize rsX A B z f y s 1 = xs at *
  generalize rsE A B z f y s 1 = e at *
  refine con_of_vc Tryz.mixed ⟨10, [], [], []⟩ Tryz.func20 (by decide) rfl (by simp) (by decide) (by simp [freshOK, freshL, go_sem]) ?_
  rw [Tryz.ntmps20]
  simp [go_sem]
  refine CallVC.of (c) (by decide) ?_
  simp [go_sem]
theorem specExplicitStep_c (A : List (List Int)) (B : List Int) (z : Int) (f : List (List Mon)) (y : List Int) (s : Int) (hA : A.length ≤ 1048576) (hB : B.length ≤ 1048576) (hr : ∀ r ∈ A, r.length ≤ 1048576) (hs : Small f) (hy : y.length ≤ 1048576) :
    Con Tryz.prog 21 [.agg [.sl A.length (mat A), .sl B.length (avs B)], .agg [.int z, .sl f.length (prt f)], .sl y.length (avs y), .int s] (rsR A B z f y s 1) := by
  have c := specRunSteps_c A B z f y s 1 hA hB hr hs hy
  unfold rsR at c ⊢
  generalize rsX A B z f y s 1 = xs at *
  generalize rsE A B z f y s 1 = e at *
  refine con_of_vc Tryz.mixed ⟨11, [], [], []⟩ Tryz.func21 (by decide) rfl (by simp) (by decide) (by simp [freshOK, freshL, go_sem]) ?_
  rw [Tryz.ntmps21]
  simp [go_sem]
  refine CallVC.of (c) (by decide) ?_
  simp [go_sem]
end Go.Proofs.YtbeekabpflaihaaGreat


namespace Go.Proofs.YtbeekabpflaihaaGreat
open Go.Abs
set_option linter.unusedSectionVars false
set_option linter.unusedVariables false
set_option linter.unusedSimpArgs false
set_option maxHeartbeats 1000000
def MapN (c : Key → Option Int) : Prop := ∀ k x, c k = some x → isN x
end Go.Proofs.YtbeekabpflaihaaGreat


namespace Go.Proofs.YtbeekabpflaihaaGreat
open Go.Abs
set_option linter.unusedSectionVars false
set_option linter.unusedVariables false
set_option linter.unusedSimpArgs false
set_option maxHeartbeats 1000000
@[simp] theorem mat_frz (A : List (List Int)) : frzL (mat A) = mat A := by
  induction A with
  | nil => rfl
  | cons r A ih => simp only [mat, List.map_cons, frzL] at ih ⊢; rw [ih]; rfl
theorem vecB_iff {z : Int} {y : List Int} : vecB z y = true ↔ (y.length : Int) = z ∧ Ns y := by
  unfold vecB; simp [numsB_N]
end Go.Proofs.YtbeekabpflaihaaGreat


namespace Go.Proofs.YtbeekabpflaihaaGreat
open Go.Abs
set_option linter.unusedSectionVars false
set_option linter.unusedVariables false
set_option linter.unusedSimpArgs false
set_option maxHeartbeats 4000000
end Go.Proofs.YtbeekabpflaihaaGreat


namespace Go.Proofs.YtbeekabpflaihaaGreat
set_option linter.unusedSectionVars false
set_option linter.unusedVariables false
set_option linter.unusedSimpArgs false
def Lv (t : List Int) : Prop := 0 < t.length ∧ t[0]?.getD 0 = 0 ∧ ∀ j, 0 < j → j < t.length → 1 ≤ t[j]?.getD 0 ∧ t[j]?.getD 0 ≤ t[j - 1]?.getD 0 + 1
theorem Lv.le {t : List Int} (h : Lv t) : ∀ j, j < t.length → 0 ≤ t[j]?.getD 0 ∧ t[j]?.getD 0 ≤ j
  | 0, _ => by rw [h.2.1]; omega
  | j + 1, hj => by
    have h1 := h.le j (by omega)
    have h2 := h.2.2 (j + 1) (by omega) hj
    rw [Nat.add_sub_cancel] at h2
    omega
end Go.Proofs.YtbeekabpflaihaaGreat


namespace Go.Proofs.YtbeekabpflaihaaGreat
open Go.Abs
set_option linter.unusedSectionVars false
set_option linter.unusedVariables false
set_option linter.unusedSimpArgs false
set_option maxHeartbeats 4000000
end Go.Proofs.YtbeekabpflaihaaGreat


namespace Go.Proofs.YtbeekabpflaihaaGreat
open Go.Abs
set_option linter.unusedSectionVars false
set_option linter.unusedVariables false
set_option linter.unusedSimpArgs false
set_option maxHeartbeats 4000000
theorem omat_set (A : List (List Int)) (k : Nat) (l : List Int) : (omat A).set k (.own 2 l.length (avs l)) = omat (A.set k l) := by
  simp [omat, List.map_set]
end Go.Proofs.YtbeekabpflaihaaGreat


namespace Go.Proofs.YtbeekabpflaihaaGreat
open Go.Abs
set_option linter.unusedSectionVars false
set_option linter.unusedVariables false
set_option linter.unusedSimpArgs false
set_option maxHeartbeats 4000000
theorem omat_take (A : List (List Int)) (i : Nat) (h : i < A.length) : omat (A.take (i + 1)) = omat (A.take i) ++ [.own 2 (A[i]?.getD []).length (avs (A[i]?.getD []))] := by
  rw [List.take_add_one, omat_app]; simp [h, omat]
end Go.Proofs.YtbeekabpflaihaaGreat


namespace Go.Proofs.YtbeekabpflaihaaGreat
open Go.Abs
set_option linter.unusedSectionVars false
set_option linter.unusedVariables false
set_option linter.unusedSimpArgs false
set_option maxHeartbeats 1000000
def colS (a : List (List Int)) (k : Nat) : List Int := tb (fun i => (a[i]?.getD [])[k]?.getD 0) a.length
@[simp] theorem colS_len (a : List (List Int)) (k : Nat) : (colS a k).length = a.length := by simp [colS]
def turnS (a : List (List Int)) : List (List Int) := (List.range (a[0]?.getD []).length).map (colS a)
@[simp] theorem turnS_len (a : List (List Int)) : (turnS a).length = (a[0]?.getD []).length := by simp [turnS]
theorem column_c (a : List (List Int)) (k : Nat) (hl : a.length ≤ 1048576) (hr : ∀ r ∈ a, k < r.length) (hk : k ≤ 1048576) :
    Con Tryz.prog 145 [.sl a.length (mat a), .int k] (.own 2 a.length (avs (colS a k))) := by
  refine con_of_vc Tryz.mixed ⟨8, [], [], []⟩ Tryz.func145 (by decide) rfl (by simp) (by decide) (by simp [freshOK, freshL, go_sem]) ?_
  rw [Tryz.ntmps145]
  simp [go_sem]
  refine loop_inv (5 :: 7 :: List.range' 11 12) (fun i : Nat => [(5, .own 2 i (avs (tb (fun i => (a[i]?.getD [])[k]?.getD 0) i))), (11, .int i)]) (fun i => i ≤ a.length) (fun i => a.length - i) 0 (by simp) (by simp [go_sem]) (by simp [go_sem]) ?_
  intro i hi
  simp [go_sem]
  refine ⟨fun h => ?_, fun h => ?_⟩ <;> simp at h
  · have hx : k < (a[i]?.getD []).length := hr _ (by simp [h])
    simp [go_sem, mat_drop h, avs_drop hx]
    refine ⟨⟨h, by rintro rfl; simp at h⟩, ⟨hx, by intro e; simp [e] at hx⟩, ?_⟩
    exact ⟨⟨by omega, by omega⟩, by omega, i + 1, by omega, by omega, Off_reset _ _ _ (by simp), by simp [tb_succ, avs_snoc], by omega⟩
  · have e : i = a.length := by omega
    subst e
    simp [go_sem]
    rfl
theorem omat_range_succ (g : Nat → List Int) (i : Nat) : omat ((List.range (i + 1)).map g) = omat ((List.range i).map g) ++ [.own 2 (g i).length (avs (g i))] := by
  rw [List.range_succ, List.map_append, omat_app]; rfl
theorem turned_c (a : List (List Int)) (hl : a.length ≤ 1048576) (h0 : 0 < a.length) (hr : ∀ r ∈ a, r.length = (a[0]?.getD []).length) (hn : (a[0]?.getD []).length ≤ 1048576) :
    Con Tryz.prog 80 [.sl a.length (mat a)] (.own 22 (turnS a).length (omat (turnS a))) := by
  rw [turnS_len]
  have m0 := mat_drop h0
  simp only [List.drop_zero] at m0
  refine con_of_vc Tryz.mixed ⟨5, [], [], []⟩ Tryz.func80 (by decide) rfl (by simp) (by decide) (by simp [freshOK, freshL, go_sem]) ?_
  rw [Tryz.ntmps80]
  simp [go_sem]
  simp [go_sem, m0]
  have m1 : AV.sl (a[0]?.getD []).length (avs (a[0]?.getD [])) :: mat a.tail = mat a := by cases a with | nil => simp at h0 | cons x l => simp [mat]
  simp only [m1]
  refine ⟨⟨h0, by rintro rfl; simp at h0⟩, ?_⟩
  refine loop_inv (3 :: 4 :: List.range' 10 10) (fun i : Nat => [(3, .own 22 i (omat ((List.range i).map (colS a)))), (10, .int i)]) (fun i => i ≤ (a[0]?.getD []).length) (fun i => (a[0]?.getD []).length - i) 0 (by simp) (by simp [go_sem, omat_nil]) (by simp [go_sem]) ?_
  intro i hi
  simp [go_sem]
  refine ⟨fun h => ?_, fun h => ?_⟩ <;> simp at h
  · simp [go_sem]
    refine CallVC.of (column_c a i hl (fun r h2 => by rw [hr r h2]; exact h) (by omega)) (by decide) ?_
    simp [go_sem]
    have ho := omat_range_succ (colS a) i
    rw [colS_len] at ho
    exact ⟨⟨by omega, by omega⟩, by omega, i + 1, by omega, by omega, Off_reset _ _ _ (by simp), by rw [ho]; exact ⟨rfl, rfl⟩, by omega⟩
  · have e : i = (a[0]?.getD []).length := by omega
    subst e
    simp [go_sem]
    rfl
theorem cloneRows_c (a : List (List Int)) (hl : a.length ≤ 1048576) (hr : ∀ r ∈ a, r.length ≤ 1048576) :
    Con Tryz.prog 172 [.sl a.length (mat a)] (.own 22 a.length (omat a)) := by
  refine con_of_vc Tryz.mixed ⟨6, [], [], []⟩ Tryz.func172 (by decide) rfl (by simp) (by decide) (by simp [freshOK, freshL, go_sem]) ?_
  rw [Tryz.ntmps172]
  simp [go_sem]
  refine loop_inv (3 :: 5 :: List.range' 9 10) (fun i : Nat => [(3, .own 22 i (omat (a.take i))), (9, .int i)]) (fun i => i ≤ a.length) (fun i => a.length - i) 0 (by simp) (by simp [go_sem, omat_nil]) (by simp [go_sem]) ?_
  intro i hi
  simp [go_sem]
  refine ⟨fun h => ?_, fun h => ?_⟩ <;> simp at h
  · simp [go_sem, mat_drop h]
    refine ⟨⟨h, by rintro rfl; simp at h⟩, ?_⟩
    refine CallVC.of (Clone_c (a[i]?.getD []) (hr _ (by simp [h]))) (by decide) ?_
    simp [go_sem]
    have ht := omat_take a i h
    refine ⟨⟨by omega, by omega, by omega⟩, by omega, i + 1, by omega, by omega, Off_reset _ _ _ (by simp), by rw [ht]; exact ⟨rfl, rfl⟩, by omega⟩
  · have e : i = a.length := by omega
    subst e
    simp [go_sem]
end Go.Proofs.YtbeekabpflaihaaGreat


namespace Go.Proofs.YtbeekabpflaihaaGreat
open Go.Abs
set_option linter.unusedSectionVars false
set_option linter.unusedVariables false
set_option linter.unusedSimpArgs false
set_option maxHeartbeats 1000000
def frI (p q : Int) : Int := p % 10007 * pw (q % 10007) 10005 % 10007
theorem frI_N (p q : Int) : isN (frI p q) := isN_mod _
def sqL (s : Nat) (q : Int) (l : List Int) : List (List Int) := (List.range s).map fun i => tb (fun k => frI (l[i * s + k]?.getD 0) q) s
def rwL (q : Int) (l : List Int) : List Int := tb (fun i => frI (l[i]?.getD 0) q) l.length
theorem sq_lt {i k s : Nat} (hi : i < s) (hk : k < s) : i * s + k < s * s := by
  have h : (i + 1) * s ≤ s * s := Nat.mul_le_mul_right s (by omega)
  rw [Nat.succ_mul] at h
  omega
theorem fits_get {l : List Int} (h : ∀ x ∈ l, fits x) (k : Nat) : fits (l[k]?.getD 0) := by
  rcases Nat.lt_or_ge k l.length with hk | hk
  · exact h _ (by simp [hk])
  · rw [List.getElem?_eq_none hk]; exact ⟨by simp, by simp⟩
set_option maxRecDepth 100000 in
theorem l09Square_c (s : Nat) (q : Int) (l : List Int) (hs : s ≤ 8) (hl : l.length = s * s) (hq : fits q) (hN : ∀ x ∈ l, fits x) :
    Con Tryz.prog 225 [.int s, .int q, .sl l.length (avs l)] (.own 22 s (omat (sqL s q l))) := by
  have hd : sqL s q l = (List.range s).map fun i => tb (fun k => frI (l[i * s + k]?.getD 0) q) s := rfl
  have h64 : s * s ≤ 64 := by
    have := Nat.mul_le_mul hs hs
    omega
  rw [hd]
  refine con_of_vc Tryz.mixed ⟨11, [], [], []⟩ Tryz.func225 (by decide) rfl (by simp) (by decide) (by simp [freshOK, freshL, go_sem]) ?_
  rw [Tryz.ntmps225]
  simp [go_sem]
  refine loop_inv ([7, 8, 9, 10] ++ List.range' 12 28) (fun i : Nat => [(7, .own 22 i (omat ((List.range i).map fun i => tb (fun k => frI (l[i * s + k]?.getD 0) q) s))), (8, .int i)]) (fun i => i ≤ s) (fun i => s - i) 0 (by simp) (by simp [go_sem, omat]) (by simp [go_sem]) ?_
  intro i hi
  by_cases his : i < s
  · have hii : (i : Int) < s := by omega
    have os := omat_range_succ (fun i => tb (fun k => frI (l[i * s + k]?.getD 0) q) s) i
    rw [tb_len] at os
    simp [go_sem, hii]
    refine loop_inv ([9, 10] ++ List.range' 18 18) (fun k : Nat => [(9, .own 2 k (avs (tb (fun k => frI (l[i * s + k]?.getD 0) q) k))), (10, .int k)]) (fun k => k ≤ s) (fun k => s - k) 0 (by simp) (by simp [go_sem]) (by simp [go_sem]) ?_
    intro k hk
    by_cases hks : k < s
    · have hki : (k : Int) < s := by omega
      have hx : i * s + k < l.length := by rw [hl]; exact sq_lt his hks
      have ec : (i : Int) * (s : Int) = ((i * s : Nat) : Int) := by simp
      have hm : i * s ≤ 64 := by omega
      have ts := tb_succ (fun k => frI (l[i * s + k]?.getD 0) q) k
      have fx := fits_get hN (i * s + k)
      have cF := l01Frac_c (l[i * s + k]?.getD 0) q fx hq
      have fe : frI (l[i * s + k]?.getD 0) q = l[i * s + k]?.getD 0 % 10007 * pw (q % 10007) 10005 % 10007 := rfl
      rw [← fe] at cF
      have dr := avs_drop hx
      have ne : ¬ l = [] := by rintro rfl; simp at hx
      generalize hz : i * s = z at *
      rw [List.getD_eq_getElem?_getD] at dr
      generalize l[z + k]?.getD 0 = x at *
      have et : ((z : Int) + (k : Int)).toNat = z + k := by omega
      simp [go_sem, hki, ec, et, dr]
      refine ⟨by omega, ⟨by omega, by omega⟩, ⟨by omega, by omega, ne⟩, ?_⟩
      refine CallVC.of (cF) (by decide) ?_
      simp [go_sem]
      exact ⟨by omega, by omega, k + 1, by omega, by omega, Off_reset _ _ _ (by simp), by rw [ts, avs_snoc]; exact ⟨rfl, rfl⟩, by omega⟩
    · have e : k = s := by omega
      subst e
      simp [go_sem]
      exact ⟨⟨by omega, by omega⟩, by omega, i + 1, by omega, by omega, (Off.reset (by intro x hx; simp at hx ⊢; omega) (by simp) (by simp [go_sem, Off_reset])), by rw [os]; exact ⟨rfl, rfl⟩, by omega⟩
  · have e : i = s := by omega
    subst e
    simp [go_sem]
set_option maxRecDepth 100000 in
theorem l09Row_c (q : Int) (l : List Int) (hl : l.length ≤ 64) (hq : fits q) (hN : ∀ x ∈ l, fits x) :
    Con Tryz.prog 226 [.int q, .sl l.length (avs l)] (.own 2 l.length (avs (rwL q l))) := by
  have hd : rwL q l = tb (fun i => frI (l[i]?.getD 0) q) l.length := rfl
  rw [hd]
  refine con_of_vc Tryz.mixed ⟨7, [], [], []⟩ Tryz.func226 (by decide) rfl (by simp) (by decide) (by simp [freshOK, freshL, go_sem]) ?_
  rw [Tryz.ntmps226]
  simp [go_sem]
  refine loop_inv ([5, 6] ++ List.range' 8 15) (fun i : Nat => [(5, .own 2 i (avs (tb (fun i => frI (l[i]?.getD 0) q) i))), (6, .int i)]) (fun i => i ≤ l.length) (fun i => l.length - i) 0 (by simp) (by simp [go_sem]) (by simp [go_sem]) ?_
  intro i hi
  by_cases hil : i < l.length
  · have hii : (i : Int) < l.length := by omega
    have ts := tb_succ (fun i => frI (l[i]?.getD 0) q) i
    have fx := fits_get hN i
    have cF := l01Frac_c (l[i]?.getD 0) q fx hq
    have fe : frI (l[i]?.getD 0) q = l[i]?.getD 0 % 10007 * pw (q % 10007) 10005 % 10007 := rfl
    rw [← fe] at cF
    have dr := avs_drop hil
    have ne : ¬ l = [] := by rintro rfl; simp at hil
    rw [List.getD_eq_getElem?_getD] at dr
    generalize l[i]?.getD 0 = x at *
    simp [go_sem, hii, dr]
    refine ⟨ne, ?_⟩
    refine CallVC.of (cF) (by decide) ?_
    simp [go_sem]
    exact ⟨by omega, by omega, i + 1, by omega, by omega, Off_reset _ _ _ (by simp), by rw [ts, avs_snoc]; exact ⟨rfl, rfl⟩, by omega⟩
  · have e : i = l.length := by omega
    simp [go_sem, e]
set_option maxRecDepth 100000 in
theorem l01Root_r (a k : Int) (hk : 0 ≤ k) (hk2 : k ≤ 9223372036854775807) : RCon Tryz.prog 227 [.int a, .int k] (fun r o => o = [.any, .any] ∧ ∃ x : Int, -1 ≤ x ∧ x ≤ 10006 ∧ r = .int x) := by
  refine rcon_of_vcH Tryz.mixed ⟨6, [], [], []⟩ [] Tryz.func227 (by decide) rfl (by simp) (by simp) (by decide) ?_
  rw [Tryz.ntmps227]
  simp [go_sem]
  refine loop_inv (List.range' 4 12) (fun i : Nat => [(5, .int i)]) (fun i => i ≤ 10007) (fun i => 10007 - i) 0 (by simp) (by simp [go_sem]) (by simp [go_sem]) ?_
  intro i hi
  by_cases h : i < 10007
  · have hii : (i : Int) < 10007 := by omega
    have cP := l01Pow_c i k ⟨by omega, by omega⟩ hk hk2
    simp [go_sem, hii]
    refine CallVC.of (cP) (by decide) ?_
    simp [go_sem]
    refine ⟨fun h => ?_, fun h => ?_⟩ <;> simp at h
    · simp [go_sem]
      omega
    · simp [go_sem]
      exact ⟨⟨by omega, by omega⟩, i + 1, by omega, by omega, Off_reset _ _ _ (by simp), by omega⟩
  · have hii : ¬ (i : Int) < 10007 := by omega
    simp [go_sem, hii]
end Go.Proofs.YtbeekabpflaihaaGreat


namespace Go.Proofs.YtbeekabpflaihaaGreat
open Go.Abs
set_option linter.unusedSectionVars false
set_option linter.unusedVariables false
set_option linter.unusedSimpArgs false
set_option maxHeartbeats 1000000
theorem memD {α : Type} {l : List α} {i : Nat} (d : α) (h : i < l.length) : l[i]?.getD d ∈ l := by simp [h]
theorem WOk.prod {n : Nat} {B C : Int} {a b : Mon} (ha : WOk n B a) (hb : WOk n C b) : WOk n (B + C) (a.1 * b.1 % 10007, addE a.2 b.2) := by
  have h1 := ha.len
  have h2 := hb.len
  refine ⟨isN_mod _, by simp [addE]; omega, fun x hx => ?_⟩
  obtain ⟨i, hi, rfl⟩ := List.getElem_of_mem hx
  unfold addE at hi ⊢
  simp at hi ⊢
  have p1 := ha.pw _ (List.getElem_mem (show i < a.2.length by omega))
  have p2 := hb.pw _ (List.getElem_mem (show i < b.2.length by omega))
  omega
theorem prodRow_wok {n : Nat} {B C : Int} {a : Mon} (ha : WOk n B a) : ∀ (q acc : List Mon), (∀ m ∈ q, WOk n C m) → (∀ m ∈ acc, WOk n (B + C) m) → ∀ m ∈ prodRow a acc q, WOk n (B + C) m
  | [], _, _, h => h
  | b :: q, acc, hq, h => prodRow_wok ha q _ (fun m hm => hq m (by simp [hm])) (putGo_wok (ha.prod (hq b (by simp))) acc _ h)
theorem prodGo_wok {n : Nat} {B C : Int} {q : List Mon} (hq : ∀ m ∈ q, WOk n C m) : ∀ (p acc : List Mon), (∀ m ∈ p, WOk n B m) → (∀ m ∈ acc, WOk n (B + C) m) → ∀ m ∈ prodGo acc q p, WOk n (B + C) m
  | [], _, _, h => h
  | a :: p, acc, hp, h => prodGo_wok hq p _ (fun m hm => hp m (by simp [hm])) (prodRow_wok (hp a (by simp)) q acc hq h)
theorem plusL_wok {n : Nat} {B k : Int} : ∀ (q p : List Mon), (∀ m ∈ q, WOk n B m) → (∀ m ∈ p, WOk n B m) → ∀ m ∈ plusL p k q, WOk n B m
  | [], p, _, hp => hp
  | m :: q, p, hq, hp => plusL_wok q _ (fun a ha => hq a (by simp [ha])) (putGo_wok ⟨isN_mod _, (hq m (by simp)).len, (hq m (by simp)).pw⟩ p _ hp)
def oneE (n k : Nat) : List Int := (List.replicate n 0).set k 1
@[simp] theorem oneE_len (n k : Nat) : (oneE n k).length = n := by simp [oneE]
theorem oneE_wok {n k : Nat} : WOk n 1 (1, oneE n k) := by
  refine ⟨⟨by omega, by omega⟩, by simp, fun x hx => ?_⟩
  rcases List.mem_or_eq_of_mem_set hx with hx | rfl
  · obtain ⟨_, rfl⟩ := List.mem_replicate.1 hx
    omega
  · omega
theorem l13One_c (n k : Nat) (hn : n ≤ 1048576) (hk : k < n) : Con Tryz.prog 221 [.int n, .int k] (.own 2 n (avs (oneE n k))) := by
  refine con_of_vc Tryz.mixed ⟨6, [], [], []⟩ Tryz.func221 (by decide) rfl (by simp) (by decide) (by simp [freshOK, freshL, go_sem]) ?_
  rw [Tryz.ntmps221]
  simp [go_sem]
  refine ⟨⟨by omega, by omega⟩, hk, ?_⟩
  rw [avs_repl, avs_set]; rfl
theorem prodL_wok {n : Nat} {B C : Int} {p q : List Mon} (hp : ∀ m ∈ p, WOk n B m) (hq : ∀ m ∈ q, WOk n C m) : ∀ m ∈ prodL p q, WOk n (B + C) m := prodGo_wok hq p [] hp (by simp)
end Go.Proofs.YtbeekabpflaihaaGreat


namespace Go.Proofs.YtbeekabpflaihaaGreat
open Go.Abs
set_option linter.unusedSectionVars false
set_option linter.unusedVariables false
set_option linter.unusedSimpArgs false
set_option maxHeartbeats 4000000
theorem sqL_tab {s : Nat} (q p : Int) (l b : List Int) (h1 : 1 ≤ s) (h8 : s ≤ 8) (hb : b.length = s) : Tab (sqL s q l) (rwL p b) := by
  have bl : (rwL p b).length = s := by simp [rwL, hb]
  refine ⟨by omega, by omega, by rw [bl]; simp [sqL], tb_N fun k _ => frI_N _ _, fun r hr => ?_⟩
  obtain ⟨i, _, rfl⟩ := List.mem_map.1 hr
  exact ⟨by rw [bl]; simp, tb_N fun k _ => frI_N _ _⟩
theorem sqL_len (s : Nat) (q : Int) (l : List Int) : (sqL s q l).length = s := by simp [sqL]
theorem rwL_len (p : Int) (b : List Int) : (rwL p b).length = b.length := by simp [rwL]
def Tb8 (A : List (List Int)) (B : List Int) : Prop := Tab A B
theorem named_fin (s : Nat) (q p : Int) (l b : List Int) (h1 : 1 ≤ s) (h8 : s ≤ 8) (hb : b.length = s) :
    ∃ (A : List (List Int)) (B : List Int), Tb8 A B ∧ (s = A.length ∧ omat (sqL s q l) = omat A) ∧ s = B.length ∧ rwL p b = B :=
  ⟨sqL s q l, rwL p b, sqL_tab q p l b h1 h8 hb, ⟨(sqL_len s q l).symm, rfl⟩, by rw [rwL_len]; exact hb.symm, rfl⟩
set_option maxRecDepth 100000 in
theorem l09Named_r (nm : ByteArray) : RCon Tryz.prog 194 [.val (.string nm)] (fun r o => o = [.any] ∧ ∃ (A : List (List Int)) (B : List Int), Tb8 A B ∧ r = .agg [.own 22 A.length (omat A), .own 2 B.length (avs B)]) := by
  have sq := fun (s : Nat) (q : Int) (l : List Int) (h1 : s ≤ 8) (h2 : l.length = s * s) (h3 : fits q) (h4 : ∀ x ∈ l, fits x) => l09Square_c s q l h1 h2 h3 h4
  have rw_ := fun (q : Int) (l : List Int) (h1 : l.length ≤ 64) (h3 : fits q) (h4 : ∀ x ∈ l, fits x) => l09Row_c q l h1 h3 h4
  have f1 : fits 1 := ⟨by omega, by omega⟩
  have ff : ∀ n : Int, -100 ≤ n → n ≤ 100 → fits n := fun n h1 h2 => ⟨by omega, by omega⟩
  refine rcon_of_vcH Tryz.mixed ⟨5, [], [2000000 + 227], []⟩ [] Tryz.func194 (by decide) rfl (by simp) (by simp) (by decide) ?_
  rw [Tryz.ntmps194]
  simp [go_sem]
  refine ⟨fun h => ?_, fun h => ?_⟩
  · simp [go_sem]
    refine CallVC.of (sq 1 1 [0] (by omega) rfl (ff _ (by omega) (by omega)) (by simp [fits])) (by decide) ?_
    simp [go_sem]
    refine CallVC.of (rw_ 1 [1] (by simp) (ff _ (by omega) (by omega)) (by simp [fits])) (by decide) ?_
    simp [go_sem]
    exact named_fin 1 1 1 [0] [1] (by omega) (by omega) rfl
  simp [go_sem]
  refine ⟨fun h => ?_, fun h => ?_⟩
  · simp [go_sem]
    refine ⟨_, l01Root_r 3 2 (by omega) (by omega), ?_⟩
    rintro _ _ ⟨rfl, x, hx1, hx2, rfl⟩
    have n6 := frI_N 1 6
    have n4 := frI_N 1 4
    have c6 := l01Frac_c 1 6 f1 (ff _ (by omega) (by omega))
    have c4 := l01Frac_c 1 4 f1 (ff _ (by omega) (by omega))
    have e6 : frI 1 6 = 1 % 10007 * pw (6 % 10007) 10005 % 10007 := rfl
    have e4 : frI 1 4 = 1 % 10007 * pw (4 % 10007) 10005 % 10007 := rfl
    rw [← e6] at c6
    rw [← e4] at c4
    generalize frI 1 6 = y at *
    generalize frI 1 4 = z at *
    have fm : fits (x * y) := by
      have h1 : x * y ≤ 10006 * y := Int.mul_le_mul_of_nonneg_right hx2 n6.1
      have h2 : -1 * y ≤ x * y := Int.mul_le_mul_of_nonneg_right hx1 n6.1
      have := n6.1
      have := n6.2
      exact ⟨by omega, by omega⟩
    have cm := l01Mul_c x y fm
    have nm' : isN (x * y % 10007) := isN_mod _
    generalize x * y % 10007 = u at *
    have fs : fits (z - u) := sub_fits n4 nm'
    have fa : fits (z + u) := add_fits n4 nm'
    have cs := l01Sub_c z u fs
    have ca := l01Add_c z u fa
    have ns : isN ((z - u) % 10007) := isN_mod _
    have na : isN ((z + u) % 10007) := isN_mod _
    generalize (z - u) % 10007 = v at *
    generalize (z + u) % 10007 = w at *
    simp [go_sem]
    refine CallVC.of (c6) (by decide) ?_
    simp [go_sem]
    refine CallVC.of (cm) (by decide) ?_
    simp [go_sem]
    refine CallVC.of (c4) (by decide) ?_
    simp [go_sem]
    refine CallVC.of (cs) (by decide) ?_
    simp [go_sem]
    refine CallVC.of (ca) (by decide) ?_
    simp [go_sem]
    refine CallVC.of (rw_ 2 [1, 1] (by simp) (ff _ (by omega) (by omega)) (by simp [fits])) (by decide) ?_
    simp [go_sem]
    have hT : Tab [[z, v], [w, z]] (rwL 2 [1, 1]) := by
      refine ⟨by simp [rwL], by simp [rwL], by simp [rwL], tb_N fun k _ => frI_N _ _, fun r hr => ?_⟩
      simp at hr
      rcases hr with rfl | rfl
      · refine ⟨by simp [rwL], fun x hx => ?_⟩
        simp at hx
        rcases hx with rfl | rfl <;> assumption
      · refine ⟨by simp [rwL], fun x hx => ?_⟩
        simp at hx
        rcases hx with rfl | rfl <;> assumption
    exact ⟨[[z, v], [w, z]], rwL 2 [1, 1], hT, by simp [omat, avs], by simp [rwL]⟩
  simp [go_sem]
  refine ⟨fun h => ?_, fun h => ?_⟩
  · simp [go_sem]
    refine CallVC.of (sq 2 1 [0, 0, 1, 0] (by omega) rfl (ff _ (by omega) (by omega)) (by simp [fits])) (by decide) ?_
    simp [go_sem]
    refine CallVC.of (rw_ 2 [1, 1] (by simp) (ff _ (by omega) (by omega)) (by simp [fits])) (by decide) ?_
    simp [go_sem]
    exact named_fin 2 1 2 [0, 0, 1, 0] [1, 1] (by omega) (by omega) rfl
  simp [go_sem]
  refine ⟨fun h => ?_, fun h => ?_⟩
  · simp [go_sem]
    refine CallVC.of (sq 1 1 [1] (by omega) rfl (ff _ (by omega) (by omega)) (by simp [fits])) (by decide) ?_
    simp [go_sem]
    refine CallVC.of (rw_ 1 [1] (by simp) (ff _ (by omega) (by omega)) (by simp [fits])) (by decide) ?_
    simp [go_sem]
    exact named_fin 1 1 1 [1] [1] (by omega) (by omega) rfl
  simp [go_sem]
  refine ⟨fun h => ?_, fun h => ?_⟩
  · simp [go_sem]
    refine CallVC.of (sq 3 2 [0, 0, 0, 1, 0, 0, -2, 4, 0] (by omega) rfl (ff _ (by omega) (by omega)) (by simp [fits])) (by decide) ?_
    simp [go_sem]
    refine CallVC.of (rw_ 6 [1, 4, 1] (by simp) (ff _ (by omega) (by omega)) (by simp [fits])) (by decide) ?_
    simp [go_sem]
    exact named_fin 3 2 6 [0, 0, 0, 1, 0, 0, -2, 4, 0] [1, 4, 1] (by omega) (by omega) rfl
  simp [go_sem]
  refine ⟨fun h => ?_, fun h => ?_⟩
  · simp [go_sem]
    refine CallVC.of (sq 3 24 [0, 0, 0, 5, 8, -1, 4, 16, 4] (by omega) rfl (ff _ (by omega) (by omega)) (by simp [fits])) (by decide) ?_
    simp [go_sem]
    refine CallVC.of (rw_ 6 [1, 4, 1] (by simp) (ff _ (by omega) (by omega)) (by simp [fits])) (by decide) ?_
    simp [go_sem]
    exact named_fin 3 24 6 [0, 0, 0, 5, 8, -1, 4, 16, 4] [1, 4, 1] (by omega) (by omega) rfl
  simp [go_sem]
  refine ⟨fun h => ?_, fun h => ?_⟩
  · simp [go_sem]
    refine CallVC.of (sq 1 2 [1] (by omega) rfl (ff _ (by omega) (by omega)) (by simp [fits])) (by decide) ?_
    simp [go_sem]
    refine CallVC.of (rw_ 1 [1] (by simp) (ff _ (by omega) (by omega)) (by simp [fits])) (by decide) ?_
    simp [go_sem]
    exact named_fin 1 2 1 [1] [1] (by omega) (by omega) rfl
  simp [go_sem]
  refine ⟨fun h => ?_, fun h => ?_⟩
  · simp [go_sem]
    refine CallVC.of (sq 2 2 [0, 0, 1, 0] (by omega) rfl (ff _ (by omega) (by omega)) (by simp [fits])) (by decide) ?_
    simp [go_sem]
    refine CallVC.of (rw_ 1 [0, 1] (by simp) (ff _ (by omega) (by omega)) (by simp [fits])) (by decide) ?_
    simp [go_sem]
    exact named_fin 2 2 1 [0, 0, 1, 0] [0, 1] (by omega) (by omega) rfl
  simp [go_sem]
  refine ⟨fun h => ?_, fun h => ?_⟩
  · simp [go_sem]
    refine CallVC.of (sq 2 12 [5, -1, 9, 3] (by omega) rfl (ff _ (by omega) (by omega)) (by simp [fits])) (by decide) ?_
    simp [go_sem]
    refine CallVC.of (rw_ 4 [3, 1] (by simp) (ff _ (by omega) (by omega)) (by simp [fits])) (by decide) ?_
    simp [go_sem]
    exact named_fin 2 12 4 [5, -1, 9, 3] [3, 1] (by omega) (by omega) rfl
  simp [go_sem]
  refine ⟨fun h => ?_, fun h => ?_⟩
  · simp [go_sem]
    refine CallVC.of (sq 2 3 [0, 0, 2, 0] (by omega) rfl (ff _ (by omega) (by omega)) (by simp [fits])) (by decide) ?_
    simp [go_sem]
    refine CallVC.of (rw_ 4 [1, 3] (by simp) (ff _ (by omega) (by omega)) (by simp [fits])) (by decide) ?_
    simp [go_sem]
    exact named_fin 2 3 4 [0, 0, 2, 0] [1, 3] (by omega) (by omega) rfl
  simp [go_sem]
  refine ⟨fun h => ?_, fun h => ?_⟩
  · simp [go_sem]
    refine CallVC.of (sq 4 2 [0, 0, 0, 0, 1, 0, 0, 0, 0, 1, 0, 0, 0, 0, 2, 0] (by omega) rfl (ff _ (by omega) (by omega)) (by simp [fits])) (by decide) ?_
    simp [go_sem]
    refine CallVC.of (rw_ 6 [1, 2, 2, 1] (by simp) (ff _ (by omega) (by omega)) (by simp [fits])) (by decide) ?_
    simp [go_sem]
    exact named_fin 4 2 6 [0, 0, 0, 0, 1, 0, 0, 0, 0, 1, 0, 0, 0, 0, 2, 0] [1, 2, 2, 1] (by omega) (by omega) rfl
  simp [go_sem]
  refine CallVC.of (sq 2 2 [0, 0, 1, 1] (by omega) rfl (ff _ (by omega) (by omega)) (by simp [fits])) (by decide) ?_
  simp [go_sem]
  refine CallVC.of (rw_ 2 [1, 1] (by simp) (ff _ (by omega) (by omega)) (by simp [fits])) (by decide) ?_
  simp [go_sem]
  exact named_fin 2 2 2 [0, 0, 1, 1] [1, 1] (by omega) (by omega) rfl
end Go.Proofs.YtbeekabpflaihaaGreat


namespace Go.Proofs.YtbeekabpflaihaaGreat
open Go.Abs
set_option linter.unusedSectionVars false
set_option linter.unusedVariables false
set_option linter.unusedSimpArgs false
set_option maxHeartbeats 1000000
end Go.Proofs.YtbeekabpflaihaaGreat


namespace Go.Proofs.YtbeekabpflaihaaGreat
open Go.Abs
set_option linter.unusedSectionVars false
set_option linter.unusedVariables false
set_option linter.unusedSimpArgs false
set_option maxHeartbeats 1000000
def cfT (T : List (Key × Int)) (k : Key) : Int := coef Prod.fst Prod.snd T k
def mapT (T : List (Key × Int)) : Key → Option Int := fun k => if hasK T k = true then some (cfT T k % 10007) else none
theorem cfT_app (a b : List (Key × Int)) (k : Key) : cfT (a ++ b) k = cfT a k + cfT b k := sumI_app _ a b
theorem cfT_none {T : List (Key × Int)} {k : Key} (h : hasK T k = false) : cfT T k = 0 := by
  unfold cfT coef
  refine sumI_zero (fun e he => if_neg (fun e1 => ?_))
  rw [hasK_iff.2 ⟨e, he, e1.symm⟩] at h
  simp at h
theorem mapT_get (T : List (Key × Int)) (k : Key) : (mapT T k).getD 0 = cfT T k % 10007 := by
  unfold mapT
  cases h : hasK T k with
  | true => simp
  | false => simp [cfT_none h]
def addK (a b : Key) : Key := (a.1 + b.1, a.2.1 + b.2.1, a.2.2 + b.2.2)
def prE (e : Key × Int) (E : List (Key × Int)) : List (Key × Int) := E.map fun d => (addK e.1 d.1, e.2 * d.2)
def prT (D E : List (Key × Int)) : List (Key × Int) := D.flatMap fun e => prE e E
theorem prT_cons (e : Key × Int) (D E : List (Key × Int)) : prT (e :: D) E = prE e E ++ prT D E := rfl
end Go.Proofs.YtbeekabpflaihaaGreat

