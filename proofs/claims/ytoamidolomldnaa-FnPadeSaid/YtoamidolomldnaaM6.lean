/- Texts of the own layer and contracts, part 6: C0 C1 C4 C5 C6 C7 C8 C2 C9 C10 C11 C12 C13 W0 W4 W5 O W2 B0 B1 B2 P0 F0 F1 F2 F3. -/
import Derived.Test.YtoamidolomldnaaRows
import Derived.WalkKit
import Derived.ProofKit
import Derived.OpenShut
import Derived.Test.YtoamidolomldnaaM5
/- Rows of whole numbers as the walks see them, and small laws of numbers. -/
namespace Go.Abs
def avs (xs : List Int) : List AV := xs.map AV.int
@[simp] theorem avs_len (xs : List Int) : (avs xs).length = xs.length := by simp [avs]
@[simp] theorem avs_nil : avs [] = [] := rfl
theorem avs_snoc (xs : List Int) (x : Int) : avs (xs ++ [x]) = avs xs ++ [.val (.int .i64 x)] := by simp [avs]
theorem avs_cons (xs : List Int) (x : Int) : avs (x :: xs) = .val (.int .i64 x) :: avs xs := by simp [avs]
theorem avs_app (xs ys : List Int) : avs (xs ++ ys) = avs xs ++ avs ys := by simp [avs]
theorem avs_drop {xs : List Int} {k : Nat} (h : k < xs.length) : (avs xs).drop k = .val (.int .i64 (xs.getD k 0)) :: avs (xs.drop (k + 1)) := by
  rw [avs, ← List.map_drop, List.drop_eq_getElem_cons h, List.map_cons]; simp [h, avs]
theorem avs_get {xs : List Int} {k : Nat} (h : k < xs.length) : (avs xs)[k]? = some (.val (.int .i64 (xs.getD k 0))) := by
  simp [avs, h]
@[simp] theorem avs_inj {xs ys : List Int} : (avs xs = avs ys) = (xs = ys) := by
  apply propext
  constructor
  · intro h
    induction xs generalizing ys with
    | nil => cases ys with
      | nil => rfl
      | cons y ys => simp [avs] at h
    | cons x xs ih => cases ys with
      | nil => simp [avs] at h
      | cons y ys =>
        rw [avs_cons, avs_cons] at h
        injection h with h1 h2
        injection h1 with h1
        injection h1 with _ h1
        rw [h1, ih h2]
  · rintro rfl; rfl
theorem avs_set (xs : List Int) (k : Nat) (x : Int) : (avs xs).set k (.val (.int .i64 x)) = avs (xs.set k x) := by
  simp [avs, List.map_set]
theorem avs_repl (n : Nat) (x : Int) : List.replicate n (AV.val (.int .i64 x)) = avs (List.replicate n x) := by simp [avs]
@[simp] theorem avs_fresh (xs : List Int) : freshL (avs xs) = true := by
  induction xs with
  | nil => rfl
  | cons x xs ih => simp [avs_cons, freshL, ih, freshOK]
@[simp] theorem avs_frz (xs : List Int) : frzL (avs xs) = avs xs := by
  induction xs with
  | nil => rfl
  | cons x xs ih => simp [avs_cons, frzL, ih, frz]
@[simp] theorem avs_kl (W : List Nat) (xs : List Int) : klL W (avs xs) = avs xs := by
  induction xs with
  | nil => rfl
  | cons x xs ih => simp [avs_cons, klL, ih, kl]
@[simp] theorem avs_own (xs : List Int) : hasOwnL (avs xs) = false := by
  induction xs with
  | nil => rfl
  | cons x xs ih => simp [avs_cons, hasOwnL, ih, hasOwn]
@[simp] theorem avs_ne {xs : List Int} : (avs xs = []) = (xs = []) := by
  cases xs <;> simp [avs]
theorem tmod_up {n : Int} (h : 0 ≤ n) (m : Int) : n.tmod m = n % m := Int.tmod_eq_emod_of_nonneg h
theorem tdiv_up {n : Int} (h : 0 ≤ n) (m : Int) : n.tdiv m = n / m := Int.tdiv_eq_ediv_of_nonneg h
theorem num_law (n : Int) : (n.tmod 10007 + 10007).tmod 10007 = n % 10007 := by
  rw [Int.tmod_eq_emod, Int.tmod_eq_emod]; split <;> split <;> simp_all <;> omega
theorem num_low (n : Int) : -10007 < n.tmod 10007 ∧ n.tmod 10007 < 10007 := by
  constructor
  · rw [Int.tmod_eq_emod]; split <;> simp_all <;> omega
  · exact Int.tmod_lt_of_pos n (by omega)
end Go.Abs

/- Contracts: tall trees, and the statement's own small functions over rows of numbers. -/
namespace Go.Proofs.Ytoamidolomldnaa
open Go.Abs
set_option linter.unusedVariables false
set_option linter.unusedSimpArgs false
set_option maxHeartbeats 400000
theorem inRange_c (n a b : Int) : Con Try.prog 127 [.int n, .int a, .int b] (.bool (decide (a ≤ n) && decide (n ≤ b))) := by
  refine con_of_vc Try.mixed ⟨4, [], [], []⟩ Try.func127 (by decide) rfl (by simp) (by decide) rfl ?_
  rw [Try.ntmps127]
  simp [go_sem]
  refine ⟨fun h => ?_, fun h => ?_⟩ <;> simp at h <;> simp [go_sem, h] <;> omega
theorem l01In_c (n a b : Int) : Con Try.prog 121 [.int n, .int a, .int b] (.bool (decide (a ≤ n) && decide (n ≤ b))) := by
  refine con_of_vc Try.mixed ⟨4, [], [], []⟩ Try.func121 (by decide) rfl (by simp) (by decide) rfl ?_
  rw [Try.ntmps121]
  simp [go_sem]
  refine ⟨fun h => ?_, fun h => ?_⟩ <;> simp at h <;> simp [go_sem, h] <;> omega
def upTo (k : Nat) : List Int := (List.range k).map fun (i : Nat) => (i : Int)
theorem upTo_succ (k : Nat) : upTo (k + 1) = upTo k ++ [(k : Int)] := by simp [upTo, List.range_succ]
@[simp] theorem upTo_len (k : Nat) : (upTo k).length = k := by simp [upTo]
/-- What a tall tree's function answers. -/
def tall (n : Int) : AV := if 1 ≤ n ∧ n ≤ 8 then .tup [.own 2 n.toNat (avs (upTo n.toNat)), .int 0] else .tup [.val (.slice none 0 0), .int 2]
theorem TallTree_c (n : Int) : Con Try.prog 58 [.int n] (tall n) := by
  unfold tall
  by_cases hn : 1 ≤ n ∧ n ≤ 8
  · rw [if_pos hn]
    refine con_of_vc Try.mixed ⟨5, [], [], []⟩ Try.func58 (by decide) rfl (by simp) (by decide) (by simp [go_sem, freshOK]) ?_
    rw [Try.ntmps58]
    simp [go_sem]
    refine CallVC.of (inRange_c _ _ _) (by decide) ?_
    simp [go_sem]
    refine ⟨fun h => ?_, fun _ => ?_⟩
    · simp at h; omega
    simp [go_sem]
    refine loop_inv [12, 13, 5, 14, 15, 16, 17, 4, 18, 11] (fun k : Nat => [(4, .own 2 k (avs (upTo k))), (11, .int k)]) (fun k => (k : Int) ≤ n) (fun k => n.toNat - k) 0 (by omega) (by simp [go_sem, upTo]) (by simp [go_sem]) ?_
    intro k hk
    simp [go_sem]
    refine ⟨fun h => ?_, fun h => ?_⟩ <;> simp at h <;> simp [go_sem]
    · refine ⟨by omega, by omega, k + 1, by omega, by omega, Off_reset _ _ _ (by simp), ?_⟩
      simp [upTo_succ, avs_snoc]
    · have : n.toNat = k := by omega
      simp [this]
  · rw [if_neg hn]
    refine con_of_vc Try.mixed ⟨5, [], [], []⟩ Try.func58 (by decide) rfl (by simp) (by decide) rfl ?_
    rw [Try.ntmps58]
    simp [go_sem]
    refine CallVC.of (inRange_c _ _ _) (by decide) ?_
    simp [go_sem]
    refine ⟨fun h => ?_, fun h => ?_⟩ <;> simp at h <;> simp [go_sem]
    omega
/-- What heldInt64S answers. -/
def held (xs : List Int) (k : Int) : Int := if xs = (List.range xs.length).map (fun (i : Nat) => k + i) then k + xs.length else -1
theorem heldInt64S_c (xs : List Int) (k : Int) (h0 : 0 ≤ k) (h1 : k + xs.length ≤ 9223372036854775807) : Con Try.prog 26 [.sl xs.length (avs xs), .int k] (.int (held xs k)) := by
  refine con_of_vc Try.mixed ⟨6, [], [], []⟩ Try.func26 (by decide) rfl (by simp) (by decide) rfl ?_
  rw [Try.ntmps26]
  simp [go_sem]
  refine loop_inv (1 :: List.range' 4 20) (fun i : Nat => [(1, .int (k + i)), (5, .int i)]) (fun i => i ≤ xs.length ∧ xs.take i = (List.range i).map (fun (i : Nat) => k + i)) (fun i => xs.length - i) 0 (by simp) (by simp [go_sem]) (by simp [go_sem]) ?_
  intro i hi
  simp [go_sem]
  refine ⟨fun h => ?_, fun h => ?_⟩ <;> simp at h
  · simp [go_sem, avs_drop h]
    refine ⟨⟨h, by rintro rfl; simp at h⟩, fun h2 => ?_, fun h2 => ?_⟩ <;> simp at h2 <;> simp [go_sem]
    · unfold held
      rw [if_neg]
      intro e
      apply h2
      rw [e]; simp [h]
    · refine ⟨by omega, by omega, i + 1, ⟨by omega, ?_⟩, by omega, Off_reset _ _ _ (by simp), by omega, by omega⟩
      rw [List.take_add_one, hi.2, List.range_succ]
      rw [List.getElem?_eq_getElem h] at h2 ⊢
      simp at h2 ⊢; exact h2
  · simp [go_sem]
    have e : i = xs.length := by omega
    subst e
    have := hi.2
    rw [List.take_length] at this
    unfold held
    rw [if_pos this]
theorem eqInt64S_c (xs ys : List Int) (hx : xs.length ≤ 9223372036854775807) : Con Try.prog 21 [.sl xs.length (avs xs), .sl ys.length (avs ys)] (.bool (decide (xs = ys))) := by
  refine con_of_vc Try.mixed ⟨6, [], [], []⟩ Try.func21 (by decide) rfl (by simp) (by decide) rfl ?_
  rw [Try.ntmps21]
  simp [go_sem]
  refine ⟨fun h => ?_, fun h => ?_⟩ <;> simp at h <;> simp [go_sem]
  · rintro rfl; omega
  have hl : xs.length = ys.length := by omega
  refine loop_inv (List.range' 4 30) (fun i : Nat => [(5, .int i)]) (fun i => i ≤ xs.length ∧ xs.take i = ys.take i) (fun i => xs.length - i) 0 (by simp) (by simp [go_sem]) (by simp [go_sem]) ?_
  intro i hi
  simp [go_sem]
  refine ⟨fun h => ?_, fun h => ?_⟩ <;> simp at h
  · simp [go_sem, avs_drop h, avs_drop (show i < ys.length by omega)]
    refine ⟨by kernel_rfl, ⟨by omega, by rintro rfl; simp at h⟩, ⟨by omega, fun e => by rw [e] at hl; rw [hl] at h; simp at h⟩, by kernel_rfl, ?_⟩
    refine ⟨fun h2 => ?_, fun h2 => ?_⟩ <;> simp at h2 <;> simp [go_sem]
    · rintro rfl; exact h2 rfl
    · refine ⟨by omega, i + 1, ⟨by omega, ?_⟩, by omega, Off_reset _ _ _ (by simp), by omega⟩
      rw [List.take_add_one, List.take_add_one, hi.2]
      rw [List.getElem?_eq_getElem h, List.getElem?_eq_getElem (show i < ys.length by omega)] at h2 ⊢
      simp only [Option.getD_some] at h2
      rw [h2]
  · simp [go_sem]
    have e : i = xs.length := by omega
    subst e
    have := hi.2
    rw [List.take_length, hl, List.take_length] at this
    exact this
theorem markInt64S_c (e : TypeId) (xs : List Int) (k : Int) (h0 : 0 ≤ k) (h1 : k + xs.length ≤ 9223372036854775807) : MCon Try.prog 25 [.own e xs.length (avs xs), .int k] (.int (k + xs.length))
    [.own e xs.length (avs ((List.range xs.length).map (fun (i : Nat) => k + i))), .any] := by
  refine mcon_of_vc Try.mixed ⟨6, [], [], []⟩ [4] [0] Try.func25 (by decide) rfl rfl (by simp) (by simp) (by simp) (by decide) ?_
  rw [Try.ntmps25]
  simp [go_sem]
  refine loop_inv (0 :: 1 :: List.range' 4 20) (fun i : Nat => [(0, .own e xs.length (avs ((List.range i).map (fun (i : Nat) => k + i) ++ xs.drop i))), (1, .int (k + i)), (5, .int i)]) (fun i => i ≤ xs.length) (fun i => xs.length - i) 0 (by simp) (by simp [go_sem]) (by simp [go_sem]) ?_
  intro i hi
  simp [go_sem]
  refine ⟨fun h => ?_, fun h => ?_⟩ <;> simp at h
  · simp [go_sem]
    refine ⟨h, by omega, by omega, by omega, i + 1, by omega, by omega, Off_reset _ _ _ (by simp), ?_, by omega, by omega⟩
    rw [avs_set, avs_inj, List.range_succ, List.map_append, List.set_append_right _ _ (by simp)]
    simp
    rw [List.drop_eq_getElem_cons h, List.set_cons_zero]
  · simp [go_sem]
    have e : i = xs.length := by omega
    subst e
    simp
theorem markInt64S_0 (k : Int) : MCon Try.prog 25 [.sl 0 [], .int k] (.int k) [.any, .any] := by
  refine mcon_of_vc Try.mixed ⟨6, [], [], []⟩ [4] [] Try.func25 (by decide) rfl rfl (by simp) (by simp) (by simp) (by decide) ?_
  rw [Try.ntmps25]
  simp [go_sem]
  refine loop_inv (1 :: List.range' 4 20) (fun i : Nat => [(5, .int 0), (1, .int k)]) (fun i => True) (fun i => 0) 0 (by simp) (by simp [go_sem]) (by simp [go_sem]) ?_
  intro i hi
  simp [go_sem]
theorem held_mark (n : Nat) (k : Int) : held ((List.range n).map (fun (i : Nat) => k + i)) k = k + n := by
  unfold held
  rw [if_pos (by simp)]
  simp
end Go.Proofs.Ytoamidolomldnaa

/- Contracts: searches by a function value, the tests of numbers and tableaus. -/
namespace Go.Proofs.Ytoamidolomldnaa
open Go.Abs
set_option linter.unusedVariables false
set_option linter.unusedSimpArgs false
set_option maxHeartbeats 1000000
/-- The place of the first one, or -1. -/
def idxF {α : Type} (p : α → Bool) : List α → Int
  | [] => -1
  | x :: xs => if p x then 0 else if idxF p xs = -1 then -1 else idxF p xs + 1
theorem idxF_ge {α : Type} (p : α → Bool) : ∀ xs : List α, -1 ≤ idxF p xs ∧ idxF p xs < xs.length
  | [] => by simp [idxF]
  | x :: xs => by
    have := idxF_ge p xs
    simp only [idxF, List.length_cons]
    split
    · omega
    · split <;> omega
theorem idxF_any {α : Type} (p : α → Bool) (xs : List α) : decide (0 ≤ idxF p xs) = xs.any p := by
  induction xs with
  | nil => simp [idxF]
  | cons x xs ih =>
    have := idxF_ge p xs
    simp only [idxF, List.any_cons, ← ih]
    by_cases hp : p x = true
    · simp [hp]
    · simp only [hp]
      simp
      split
      · rename_i e; simp [e]
      · by_cases h : 0 ≤ idxF p xs <;> simp [h] <;> omega
theorem idxF_skip {α : Type} (p : α → Bool) : ∀ (xs : List α) (i : Nat), (∀ x ∈ xs.take i, p x = false) → i ≤ xs.length → (idxF p xs = if idxF p (xs.drop i) = -1 then -1 else idxF p (xs.drop i) + i)
  | xs, 0, h, hl => by simp
  | [], i + 1, h, hl => by simp at hl
  | x :: xs, i + 1, h, hl => by
    have h1 : p x = false := h x (by simp)
    have h2 := idxF_skip p xs i (fun y hy => h y (by simp [hy])) (by simpa using hl)
    simp only [idxF, h1, List.drop_succ_cons]
    have := (idxF_ge p (xs.drop i)).1
    simp
    rw [h2]
    split
    · simp
    · rename_i hne
      rw [if_neg (by omega)]
      omega
theorem IndexFuncI_c (g : FuncId) (p : Int → Bool) (xs : List Int) (hl : xs.length ≤ 9223372036854775807) (hg : ∀ x ∈ xs, Con Try.prog g [.int x] (.bool (p x))) :
    Con Try.prog 234 [.sl xs.length (avs xs), .val (.func (.func g) #[] #[])] (.int (idxF p xs)) := by
  refine con_of_vc Try.mixed ⟨6, [], [], []⟩ Try.func234 (by decide) rfl (by simp) (by decide) rfl ?_
  rw [Try.ntmps234]
  simp [go_sem]
  refine loop_inv (5 :: List.range' 8 20) (fun i : Nat => [(8, .int i)]) (fun i => i ≤ xs.length ∧ ∀ x ∈ xs.take i, p x = false) (fun i => xs.length - i) 0 (by simp) (by simp [go_sem]) (by simp [go_sem]) ?_
  rintro i ⟨hi, hf⟩
  simp [go_sem]
  have sk := idxF_skip p xs i hf hi
  refine ⟨fun h => ?_, fun h => ?_⟩ <;> simp at h
  · have hx : xs[i]?.getD 0 ∈ xs := by simp [h]
    have hd : xs.drop i = xs[i]?.getD 0 :: xs.drop (i + 1) := by rw [List.drop_eq_getElem_cons h]; simp [h]
    simp [go_sem, avs_drop h]
    refine ⟨⟨h, by rintro rfl; simp at h⟩, CallVC.of (hg _ hx) (by decide) ?_⟩
    simp [go_sem]
    refine ⟨fun h2 => ?_, fun h2 => ?_⟩ <;> simp [go_sem]
    · rw [sk, hd]; simp [idxF, h2]
    · refine ⟨by omega, i + 1, ⟨by omega, ?_⟩, by omega, Off_reset _ _ _ (by simp), by omega⟩
      intro x hx2
      rw [List.take_add_one, List.getElem?_eq_getElem h, Option.toList_some, List.mem_append, List.mem_singleton] at hx2
      rcases hx2 with hx2 | hx2
      · exact hf x hx2
      · rw [hx2]; simpa [h] using h2
  · simp [go_sem]
    rw [sk, List.drop_eq_nil_of_le h]; simp [idxF]
theorem ContainsFuncI_c (g : FuncId) (p : Int → Bool) (xs : List Int) (hl : xs.length ≤ 9223372036854775807) (hg : ∀ x ∈ xs, Con Try.prog g [.int x] (.bool (p x))) :
    Con Try.prog 175 [.sl xs.length (avs xs), .val (.func (.func g) #[] #[])] (.bool (xs.any p)) := by
  refine con_of_vc Try.mixed ⟨5, [], [], []⟩ Try.func175 (by decide) rfl (by simp) (by decide) rfl ?_
  rw [Try.ntmps175]
  simp [go_sem]
  refine CallVC.of (IndexFuncI_c g p xs hl hg) (by decide) ?_
  simp [go_sem, idxF_any]
theorem IsNumber_c (a : Int) : Con Try.prog 80 [.int a] (.bool (decide (0 ≤ a ∧ a ≤ 10006))) := by
  refine con_of_vc Try.mixed ⟨3, [], [], []⟩ Try.func80 (by decide) rfl (by simp) (by decide) rfl ?_
  rw [Try.ntmps80]
  simp [go_sem]
  refine CallVC.of (inRange_c _ _ _) (by decide) ?_
  simp [go_sem]
theorem notNumber_c (a : Int) : Con Try.prog 176 [.int a] (.bool (!decide (0 ≤ a ∧ a ≤ 10006))) := by
  refine con_of_vc Try.mixed ⟨3, [], [], []⟩ Try.func176 (by decide) rfl (by simp) (by decide) rfl ?_
  rw [Try.ntmps176]
  simp [go_sem]
  refine CallVC.of (IsNumber_c _) (by decide) ?_
  simp [go_sem]
/-- All of a row are numbers of the field. -/
def numsB (xs : List Int) : Bool := xs.all fun a => decide (0 ≤ a ∧ a ≤ 10006)
theorem areNumbers_c (xs : List Int) (hl : xs.length ≤ 9223372036854775807) : Con Try.prog 93 [.sl xs.length (avs xs)] (.bool (numsB xs)) := by
  refine con_of_vc Try.mixed ⟨3, [], [], []⟩ Try.func93 (by decide) rfl (by simp) (by decide) rfl ?_
  rw [Try.ntmps93]
  simp [go_sem]
  refine CallVC.of (ContainsFuncI_c _ _ xs hl (fun x _ => notNumber_c x)) (by decide) ?_
  simp [go_sem, numsB, List.not_any_eq_all_not]
end Go.Proofs.Ytoamidolomldnaa

/- Contracts: searches in rows of rows; tableaus: their test, copies, sizes, comparisons, marks. -/
namespace Go.Proofs.Ytoamidolomldnaa
open Go.Abs
set_option linter.unusedVariables false
set_option linter.unusedSimpArgs false
set_option maxHeartbeats 1000000
/-- Rows of rows, frozen. -/
def mat (xss : List (List Int)) : List AV := xss.map fun r => .sl r.length (avs r)
@[simp] theorem mat_len (xss : List (List Int)) : (mat xss).length = xss.length := by simp [mat]
theorem mat_drop {xss : List (List Int)} {k : Nat} (h : k < xss.length) : (mat xss).drop k = .sl (xss[k]?.getD []).length (avs (xss[k]?.getD [])) :: mat (xss.drop (k + 1)) := by
  rw [mat, ← List.map_drop, List.drop_eq_getElem_cons h, List.map_cons]; simp [h, mat]
@[simp] theorem mat_ne {xss : List (List Int)} : (mat xss = []) = (xss = []) := by cases xss <;> simp [mat]
theorem IndexFuncM_c (g : FuncId) (s : Int) (p : List Int → Bool) (xss : List (List Int)) (hl : xss.length ≤ 9223372036854775807) (hg : ∀ x ∈ xss, Con Try.prog g [.sl x.length (avs x), .fptr [.int s]] (.bool (p x))) :
    Con Try.prog 231 [.sl xss.length (mat xss), .fn g [.fptr [.int s]]] (.int (idxF p xss)) := by
  refine con_of_vc Try.mixed ⟨6, [], [], []⟩ Try.func231 (by decide) rfl (by simp) (by decide) rfl ?_
  rw [Try.ntmps231]
  simp [go_sem]
  refine loop_inv (5 :: List.range' 8 20) (fun i : Nat => [(8, .int i)]) (fun i => i ≤ xss.length ∧ ∀ x ∈ xss.take i, p x = false) (fun i => xss.length - i) 0 (by simp) (by simp [go_sem]) (by simp [go_sem]) ?_
  rintro i ⟨hi, hf⟩
  simp [go_sem]
  have sk := idxF_skip p xss i hf hi
  refine ⟨fun h => ?_, fun h => ?_⟩ <;> simp at h
  · have hx : xss[i]?.getD [] ∈ xss := by simp [h]
    have hd : xss.drop i = xss[i]?.getD [] :: xss.drop (i + 1) := by rw [List.drop_eq_getElem_cons h]; simp [h]
    simp [go_sem, mat_drop h]
    refine ⟨⟨h, by rintro rfl; simp at h⟩, CallVC.of (hg _ hx) (by decide) ?_⟩
    simp [go_sem]
    refine ⟨fun h2 => ?_, fun h2 => ?_⟩ <;> simp [go_sem]
    · rw [sk, hd]; simp [idxF, h2]
    · refine ⟨by omega, i + 1, ⟨by omega, ?_⟩, by omega, Off_reset _ _ _ (by simp), by omega⟩
      intro x hx2
      rw [List.take_add_one, List.getElem?_eq_getElem h, Option.toList_some, List.mem_append, List.mem_singleton] at hx2
      rcases hx2 with hx2 | hx2
      · exact hf x hx2
      · rw [hx2]; simpa [h] using h2
  · simp [go_sem]
    rw [sk, List.drop_eq_nil_of_le h]; simp [idxF]
theorem ContainsFuncM_c (g : FuncId) (s : Int) (p : List Int → Bool) (xss : List (List Int)) (hl : xss.length ≤ 9223372036854775807) (hg : ∀ x ∈ xss, Con Try.prog g [.sl x.length (avs x), .fptr [.int s]] (.bool (p x))) :
    Con Try.prog 164 [.sl xss.length (mat xss), .fn g [.fptr [.int s]]] (.bool (xss.any p)) := by
  refine con_of_vc Try.mixed ⟨5, [], [], []⟩ Try.func164 (by decide) rfl (by simp) (by decide) rfl ?_
  rw [Try.ntmps164]
  simp [go_sem]
  refine CallVC.of (IndexFuncM_c g s p xss hl hg) (by decide) ?_
  simp [go_sem, idxF_any]
theorem badRow_c (x : List Int) (s : Int) (hl : x.length ≤ 9223372036854775807) : Con Try.prog 165 [.sl x.length (avs x), .fptr [.int s]] (.bool (!(decide ((x.length : Int) = s) && numsB x))) := by
  refine con_of_vc Try.mixed ⟨4, [], [], []⟩ Try.func165 (by decide) rfl (by simp) (by decide) rfl ?_
  rw [Try.ntmps165]
  simp [go_sem]
  by_cases h : (x.length : Int) = s
  · simp [go_sem, h]
    refine CallVC.of (areNumbers_c x hl) (by decide) ?_
    simp [go_sem, h]
  · simp [go_sem, h]
theorem length_c (n : Nat) (cs : List AV) (hn : n ≤ 9223372036854775807) : Con Try.prog 117 [.sl n cs] (.int n) := by
  refine con_of_vc Try.mixed ⟨3, [], [], []⟩ Try.func117 (by decide) rfl (by simp) (by decide) rfl ?_
  rw [Try.ntmps117]
  simp [go_sem]
  try omega
theorem tab_c (a b : List AV) (n m : Nat) : Con Try.prog 210 [.agg [.sl n a, .sl m b]] (.int m) := by
  refine con_of_vc Try.mixed ⟨3, [], [], []⟩ Try.func210 (by decide) rfl (by simp) (by decide) rfl ?_
  rw [Try.ntmps210]
  simp [go_sem]
/-- A tableau of the field with so many stages. -/
def tabB (A : List (List Int)) (B : List Int) : Bool := decide (1 ≤ B.length ∧ B.length ≤ 8 ∧ A.length = B.length) && numsB B && A.all fun r => decide (r.length = B.length) && numsB r
theorem IsTableau_c (A : List (List Int)) (B : List Int) (hA : A.length ≤ 9223372036854775807) (hB : B.length ≤ 9223372036854775807) (hr : ∀ r ∈ A, r.length ≤ 9223372036854775807) :
    Con Try.prog 79 [.agg [.sl A.length (mat A), .sl B.length (avs B)]] (.bool (tabB A B)) := by
  refine con_of_vc Try.mixed ⟨4, [], [], []⟩ Try.func79 (by decide) rfl (by simp) (by decide) rfl ?_
  rw [Try.ntmps79]
  simp [go_sem]
  refine CallVC.of (length_c _ _ hB) (by decide) ?_
  simp [go_sem]
  have cR := inRange_c B.length 1 8
  by_cases h1 : 1 ≤ B.length ∧ B.length ≤ 8
  · have e1 : (decide ((1 : Int) ≤ B.length) && decide ((B.length : Int) ≤ 8)) = true := by simp; omega
    rw [e1] at cR
    refine CallVC.of cR (by decide) ?_
    by_cases h2 : A.length = B.length
    · have h2' : (A.length : Int) = B.length := by omega
      simp [go_sem, h2, h2']
      refine CallVC.of (areNumbers_c B hB) (by decide) ?_
      by_cases h3 : numsB B = true
      · simp [go_sem, h3]
        have cM := ContainsFuncM_c 165 B.length (fun x => !(decide ((x.length : Int) = B.length) && numsB x)) A hA (fun x hx => badRow_c x B.length (hr x hx))
        rw [h2] at cM
        refine CallVC.of cM (by decide) ?_
        simp [go_sem, tabB, h1, h2, h3]
        rw [List.any_eq_not_all_not]
        congr 2
        funext r
        simp [show ((r.length : Int) = B.length) = (r.length = B.length) from propext ⟨fun e => by omega, fun e => by omega⟩]
      · simp at h3
        simp [go_sem, h3, tabB]
    · have h2' : ¬ (A.length : Int) = B.length := by omega
      simp [go_sem, h2, h2', tabB]
  · have e1 : (decide ((1 : Int) ≤ B.length) && decide ((B.length : Int) ≤ 8)) = false := by simp; omega
    rw [e1] at cR
    refine CallVC.of cR (by decide) ?_
    have e3 : tabB A B = false := by
      unfold tabB
      have : decide (1 ≤ B.length ∧ B.length ≤ 8 ∧ A.length = B.length) = false := by simp; omega
      rw [this]; simp
    rw [e3]
    simp [go_sem]
end Go.Proofs.Ytoamidolomldnaa

/- Contracts: the statements' own functions over rows of rows and tableaus. -/
namespace Go.Proofs.Ytoamidolomldnaa
open Go.Abs
set_option linter.unusedVariables false
set_option linter.unusedSimpArgs false
set_option maxHeartbeats 1000000
def szR (left n : Int) : Int := if left - n < 0 then -1 else left - n
theorem szInt64S_c (n : Nat) (cs : List AV) (left : Int) (hn : n ≤ 9223372036854775807) (h0 : -1 ≤ left) (h1 : left ≤ 9223372036854775807) :
    Con Try.prog 72 [.sl n cs, .int left] (.int (szR left n)) := by
  refine con_of_vc Try.mixed ⟨5, [], [], []⟩ Try.func72 (by decide) rfl (by simp) (by decide) rfl ?_
  rw [Try.ntmps72]
  simp [go_sem]
  unfold szR
  refine ⟨by omega, fun h => ?_, fun h => ?_⟩ <;> simp at h <;> simp [go_sem]
  · omega
  · omega
theorem szR_ge (left n : Int) : -1 ≤ szR left n := by unfold szR; split <;> omega
theorem szR_le {left n : Int} (h : 0 ≤ n) (h1 : -1 ≤ left) : szR left n ≤ left := by unfold szR; split <;> omega
/-- What is left behind rows of rows. -/
def szRs : Int → List (List Int) → Int
  | left, [] => left
  | left, r :: rs => if szR left r.length < 0 then -1 else szRs (szR left r.length) rs
def szM (left : Int) (A : List (List Int)) : Int := if szR left A.length < 0 then -1 else szRs (szR left A.length) A
theorem szInt64SS_c (A : List (List Int)) (left : Int) (hA : A.length ≤ 9223372036854775807) (hr : ∀ r ∈ A, r.length ≤ 9223372036854775807) (h0 : 0 ≤ left) (h1 : left ≤ 9223372036854775807) :
    Con Try.prog 16 [.sl A.length (mat A), .int left] (.int (szM left A)) := by
  refine con_of_vc Try.mixed ⟨6, [], [], []⟩ Try.func16 (by decide) rfl (by simp) (by decide) rfl ?_
  rw [Try.ntmps16]
  simp [go_sem]
  refine ⟨by omega, fun h => ?_, fun h => ?_⟩ <;> simp at h <;> simp [go_sem]
  · unfold szM szR; simp; omega
  have e1 : szM left A = szRs (left - A.length) A := by unfold szM szR; rw [if_neg (by omega : ¬ left - (A.length : Int) < 0), if_neg (by omega)]
  refine loop_inv (1 :: List.range' 4 30) (fun x : Nat × Int => [(1, .int x.2), (5, .int x.1)]) (fun x => x.1 ≤ A.length ∧ 0 ≤ x.2 ∧ x.2 ≤ left ∧ szRs x.2 (A.drop x.1) = szM left A) (fun x => A.length - x.1) (0, left - A.length) (by simp; omega) (by simp [go_sem]) (by simp [go_sem]) ?_
  rintro ⟨i, l⟩ ⟨hi, hl0, hl1, he⟩
  simp only at hi hl0 hl1 he
  simp [go_sem]
  refine ⟨fun h => ?_, fun h => ?_⟩ <;> simp at h
  · have hx : A[i]?.getD [] ∈ A := by simp [h]
    have hd : A.drop i = A[i]?.getD [] :: A.drop (i + 1) := by rw [List.drop_eq_getElem_cons h]; simp [h]
    simp [go_sem, mat_drop h]
    refine ⟨⟨h, by rintro rfl; simp at h⟩, CallVC.of (szInt64S_c _ _ _ (hr _ hx) (by omega) (by omega)) (by decide) ?_⟩
    simp [go_sem]
    have k1 := szR_ge l (A[i]?.getD []).length
    have k2 := szR_le (left := l) (n := (A[i]?.getD []).length) (by omega) (by omega)
    rw [hd, szRs] at he
    refine ⟨fun h2 => ?_, fun h2 => ?_⟩ <;> simp at h2 <;> simp [go_sem]
    · rw [if_pos h2] at he; exact he
    · rw [if_neg (by omega)] at he
      refine ⟨by omega, i + 1, _, ⟨by omega, h2, by omega, he⟩, by omega, Off_reset _ _ _ (by simp), rfl, by omega⟩
  · simp [go_sem]
    rw [List.drop_eq_nil_of_le h] at he
    exact he
end Go.Proofs.Ytoamidolomldnaa

/- Contracts: the statements' own copies of rows, rows of rows and tableaus. -/
namespace Go.Proofs.Ytoamidolomldnaa
open Go.Abs
set_option linter.unusedVariables false
set_option linter.unusedSimpArgs false
set_option maxHeartbeats 1000000
theorem fill_step {α : Type} (l : List α) (d v : α) (i : Nat) (h : i < l.length) (hv : l[i]? = some v) : (l.take i ++ List.replicate (l.length - i) d).set i v = l.take (i + 1) ++ List.replicate (l.length - (i + 1)) d := by
  obtain ⟨k, hk⟩ : ∃ k, l.length - i = k + 1 := ⟨l.length - i - 1, by omega⟩
  rw [show l.length - (i + 1) = k by omega, hk, List.replicate_succ, List.set_append_right _ _ (by simp; omega), List.take_add_one, hv]
  have : i - (l.take i).length = 0 := by simp; omega
  rw [this]; simp
theorem toInt64S_c (xs : List Int) (hl : xs.length ≤ 1048576) : Con Try.prog 19 [.sl xs.length (avs xs)] (.own 2 xs.length (avs xs)) := by
  refine con_of_vc Try.mixed ⟨5, [], [], []⟩ Try.func19 (by decide) rfl (by simp) (by decide) (by simp [freshOK]) ?_
  rw [Try.ntmps19]
  simp [go_sem]
  refine ⟨by omega, ?_⟩
  refine loop_inv (List.range' 3 30) (fun i : Nat => [(3, .own 2 xs.length (avs (xs.take i ++ List.replicate (xs.length - i) 0))), (4, .int i)]) (fun i => i ≤ xs.length) (fun i => xs.length - i) 0 (by simp) (by simp [go_sem, avs_repl]) (by simp [go_sem]) ?_
  intro i hi
  simp [go_sem]
  refine ⟨fun h => ?_, fun h => ?_⟩ <;> simp at h
  · simp [go_sem, avs_drop h]
    refine ⟨⟨h, by rintro rfl; simp at h⟩, h, by omega, by omega, i + 1, by omega, by omega, Off_reset _ _ _ (by simp), ?_, by omega⟩
    rw [avs_set, avs_inj]
    exact fill_step xs 0 _ i h (by simp [h])
  · simp [go_sem]
    have e : i = xs.length := by omega
    subst e; simp
/-- Rows of rows that are ours. -/
def omat (A : List (List Int)) : List AV := A.map fun r => .own 2 r.length (avs r)
@[simp] theorem omat_len (A : List (List Int)) : (omat A).length = A.length := by simp [omat]
@[simp] theorem omat_frz (A : List (List Int)) : frzL (omat A) = mat A := by
  induction A with
  | nil => rfl
  | cons r A ih => simp only [omat, mat, List.map_cons, frzL] at ih ⊢; rw [ih]; simp [frz]
@[simp] theorem omat_fresh (A : List (List Int)) : freshL (omat A) = true := by
  induction A with
  | nil => rfl
  | cons r A ih => simp only [omat, List.map_cons, freshL] at ih ⊢; rw [ih]; simp [freshOK]
theorem toInt64SS_c (A : List (List Int)) (hl : A.length ≤ 1048576) (hr : ∀ r ∈ A, r.length ≤ 1048576) : Con Try.prog 18 [.sl A.length (mat A)] (.own 23 A.length (omat A)) := by
  refine con_of_vc Try.mixed ⟨5, [], [], []⟩ Try.func18 (by decide) rfl (by simp) (by decide) (by simp [freshOK]) ?_
  rw [Try.ntmps18]
  simp [go_sem]
  refine ⟨by omega, ?_⟩
  refine loop_inv (List.range' 3 30) (fun i : Nat => [(3, .own 23 A.length (omat (A.take i) ++ List.replicate (A.length - i) (.val (.slice none 0 0)))), (4, .int i)]) (fun i => i ≤ A.length) (fun i => A.length - i) 0 (by simp) (by simp [go_sem, omat]) (by simp [go_sem]) ?_
  intro i hi
  simp [go_sem]
  refine ⟨fun h => ?_, fun h => ?_⟩ <;> simp at h
  · have hx : A[i]?.getD [] ∈ A := by simp [h]
    simp [go_sem, mat_drop h]
    refine ⟨⟨h, by rintro rfl; simp at h⟩, CallVC.of (toInt64S_c _ (hr _ hx)) (by decide) ?_⟩
    simp [go_sem]
    refine ⟨h, by omega, by omega, i + 1, by omega, by omega, Off_reset _ _ _ (by simp), ?_, by omega⟩
    have e1 : ∀ k, omat (A.take k) = (omat A).take k := fun k => by simp [omat, List.map_take]
    have := fill_step (omat A) (.val (.slice none 0 0)) (.own 2 (A[i]?.getD []).length (avs (A[i]?.getD []))) i (by simpa using h) (by simp [omat, h])
    rw [omat_len] at this
    rw [e1, e1]
    exact this
  · simp [go_sem]
    have e : i = A.length := by omega
    subst e; simp
theorem toTableau_c (A : List (List Int)) (B : List Int) (hl : A.length ≤ 1048576) (hr : ∀ r ∈ A, r.length ≤ 1048576) (hB : B.length ≤ 1048576) :
    Con Try.prog 13 [.agg [.sl A.length (mat A), .sl B.length (avs B)]] (.agg [.own 23 A.length (omat A), .own 2 B.length (avs B)]) := by
  refine con_of_vc Try.mixed ⟨4, [], [], []⟩ Try.func13 (by decide) rfl (by simp) (by decide) (by simp [freshOK, freshL]) ?_
  rw [Try.ntmps13]
  simp [go_sem]
  refine CallVC.of (toInt64SS_c A hl hr) (by decide) ?_
  simp [go_sem]
  refine CallVC.of (toInt64S_c B hB) (by decide) ?_
  simp [go_sem]
end Go.Proofs.Ytoamidolomldnaa

/- Contracts: the statements' own comparisons and marks of rows of rows and tableaus. -/
namespace Go.Proofs.Ytoamidolomldnaa
open Go.Abs
set_option linter.unusedVariables false
set_option linter.unusedSimpArgs false
set_option maxHeartbeats 1000000
theorem eqInt64SS_c (A C : List (List Int)) (hA : A.length ≤ 9223372036854775807) (hr : ∀ r ∈ A, r.length ≤ 9223372036854775807) :
    Con Try.prog 22 [.sl A.length (mat A), .sl C.length (mat C)] (.bool (decide (A = C))) := by
  refine con_of_vc Try.mixed ⟨6, [], [], []⟩ Try.func22 (by decide) rfl (by simp) (by decide) rfl ?_
  rw [Try.ntmps22]
  simp [go_sem]
  refine ⟨fun h => ?_, fun h => ?_⟩ <;> simp at h <;> simp [go_sem]
  · rintro rfl; omega
  have hl : A.length = C.length := by omega
  refine loop_inv (List.range' 4 30) (fun i : Nat => [(5, .int i)]) (fun i => i ≤ A.length ∧ A.take i = C.take i) (fun i => A.length - i) 0 (by simp) (by simp [go_sem]) (by simp [go_sem]) ?_
  intro i hi
  simp [go_sem]
  refine ⟨fun h => ?_, fun h => ?_⟩ <;> simp at h
  · have hx : A[i]?.getD [] ∈ A := by simp [h]
    simp [go_sem, mat_drop h, mat_drop (show i < C.length by omega)]
    refine ⟨by kernel_rfl, ⟨h, by rintro rfl; simp at h⟩, ⟨by omega, fun e => by rw [e] at hl; rw [hl] at h; simp at h⟩, ?_⟩
    refine CallD.of (eqInt64S_c _ _ (hr _ hx)) (by simp [roots]) (by decide) ?_
    simp [go_sem]
    refine ⟨by kernel_rfl, ?_⟩
    refine ⟨fun h2 => ?_, fun h2 => ?_⟩ <;> simp at h2 <;> simp [go_sem]
    · rintro rfl; exact h2 rfl
    · refine ⟨by omega, i + 1, ⟨by omega, ?_⟩, by omega, Off_reset _ _ _ (by simp), by omega⟩
      rw [List.take_add_one, List.take_add_one, hi.2]
      rw [List.getElem?_eq_getElem h, List.getElem?_eq_getElem (show i < C.length by omega)] at h2 ⊢
      simp only [Option.getD_some] at h2
      rw [h2]
  · simp [go_sem]
    have e : i = A.length := by omega
    subst e
    have := hi.2
    rw [List.take_length, hl, List.take_length] at this
    exact this
theorem eqTableau_c (A C : List (List Int)) (B D : List Int) (hA : A.length ≤ 9223372036854775807) (hr : ∀ r ∈ A, r.length ≤ 9223372036854775807) (hB : B.length ≤ 9223372036854775807) :
    Con Try.prog 15 [.agg [.sl A.length (mat A), .sl B.length (avs B)], .agg [.sl C.length (mat C), .sl D.length (avs D)]] (.bool (decide (A = C) && decide (B = D))) := by
  refine con_of_vc Try.mixed ⟨6, [], [], []⟩ Try.func15 (by decide) rfl (by simp) (by decide) rfl ?_
  rw [Try.ntmps15]
  simp [go_sem]
  refine CallVC.of (eqInt64SS_c A C hA hr) (by decide) ?_
  by_cases h1 : A = C
  · simp [go_sem, h1]
    refine CallVC.of (eqInt64S_c B D hB) (by decide) ?_
    by_cases h2 : B = D <;> simp [go_sem, h2]
  · simp [go_sem, h1]
/-- The marks of a row. -/
def marks (n : Nat) (k : Int) : List Int := (List.range n).map fun (i : Nat) => k + i
@[simp] theorem marks_len (n : Nat) (k : Int) : (marks n k).length = n := by simp [marks]
def marksM : List (List Int) → Int → List (List Int)
  | [], _ => []
  | r :: rs, k => marks r.length k :: marksM rs (k + r.length)
@[simp] theorem marksM_len : ∀ (A : List (List Int)) (k : Int), (marksM A k).length = A.length
  | [], _ => rfl
  | r :: rs, k => by simp [marksM, marksM_len rs]
def sumL : List (List Int) → Nat
  | [] => 0
  | r :: rs => r.length + sumL rs
theorem sumL_app (A C : List (List Int)) : sumL (A ++ C) = sumL A + sumL C := by
  induction A with
  | nil => simp [sumL]
  | cons r A ih => simp [sumL, ih]; omega
theorem sumL_take {A : List (List Int)} {i : Nat} (h : i < A.length) : sumL (A.take (i + 1)) = sumL (A.take i) + (A[i]?.getD []).length := by
  rw [List.take_add_one, sumL_app]; simp [h, sumL]
theorem sumL_le (A : List (List Int)) (i : Nat) : sumL (A.take i) ≤ sumL A := by
  have := congrArg sumL (List.take_append_drop i A)
  rw [sumL_app] at this; omega
theorem marksM_snoc (A : List (List Int)) (r : List Int) (k : Int) : marksM (A ++ [r]) k = marksM A k ++ [marks r.length (k + sumL A)] := by
  induction A generalizing k with
  | nil => simp [marksM, sumL]
  | cons q A ih => simp [marksM, sumL, ih]; congr 1; omega
theorem marksM_take {A : List (List Int)} {i : Nat} (h : i < A.length) (k : Int) : marksM (A.take (i + 1)) k = marksM (A.take i) k ++ [marks (A[i]?.getD []).length (k + sumL (A.take i))] := by
  rw [List.take_add_one, List.getElem?_eq_getElem h, Option.toList_some, marksM_snoc]; simp
theorem markInt64SS_c (A : List (List Int)) (k : Int) (hA : A.length ≤ 1048576) (hr : ∀ r ∈ A, r.length ≤ 1048576) (h0 : 0 ≤ k) (h1 : k + sumL A ≤ 9223372036854775807) :
    MCon Try.prog 24 [.own 23 A.length (omat A), .int k] (.int (k + sumL A)) [.own 23 A.length (omat (marksM A k)), .any] := by
  refine mcon_of_vc Try.mixed ⟨6, [], [25], []⟩ [4] [0] Try.func24 (by decide) rfl rfl (by simp) (by simp) (by simp) (by decide) ?_
  rw [Try.ntmps24]
  simp [go_sem]
  refine loop_inv (0 :: 1 :: List.range' 4 20) (fun i : Nat => [(0, .own 23 A.length (omat (marksM (A.take i) k ++ A.drop i))), (1, .int (k + sumL (A.take i))), (5, .int i)]) (fun i => i ≤ A.length) (fun i => A.length - i) 0 (by simp) (by simp [go_sem, marksM, sumL]) (by simp [go_sem]) ?_
  intro i hi
  simp [go_sem]
  refine ⟨fun h => ?_, fun h => ?_⟩ <;> simp at h
  · have hr2 : A[i]?.getD [] ∈ A := by simp [h]
    generalize hM : omat (marksM (A.take i) k ++ A.drop i) = M
    have hML : M.length = A.length := by rw [← hM]; simp; omega
    have hMi : M[i]? = some (.own 2 (A[i]?.getD []).length (avs (A[i]?.getD []))) := by
      rw [← hM, omat, List.getElem?_map, List.getElem?_append_right (by simp; omega)]
      simp [h, Nat.min_eq_left hi]
    have t1 := sumL_take h
    have t2 := sumL_le A (i + 1)
    have e0 : A[i]?.getD [] = A[i] := by simp [h]
    rw [e0] at t1 hMi
    have m := markInt64S_c 2 A[i] (k + sumL (A.take i)) (by omega) (by omega)
    simp [go_sem, hMi, hML]
    refine ⟨h, _, _, m, ?_⟩
    simp [go_sem, hML, h]
    refine ⟨by omega, i + 1, by omega, by omega, Off_reset _ _ _ (by simp), ?_, by omega, by omega⟩
    rw [← hM, marksM_take h, e0, omat, omat, List.drop_eq_getElem_cons h, List.map_append, List.map_cons, List.set_append_right _ _ (by simp; omega)]
    have : i - (List.map (fun r => AV.own 2 r.length (avs r)) (marksM (A.take i) k)).length = 0 := by simp; omega
    rw [this, List.set_cons_zero]
    simp [marks]
  · simp [go_sem]
    have e : i = A.length := by omega
    subst e
    simp
end Go.Proofs.Ytoamidolomldnaa

/- Contracts of the field's own functions: remainder, power, inverse, factorials. -/
namespace Go.Proofs.Ytoamidolomldnaa
open Go.Abs
set_option linter.unusedVariables false
set_option linter.unusedSimpArgs false
set_option maxHeartbeats 1000000
/-- A power in the field. -/
def pw (a k : Int) : Int := a ^ k.toNat % 10007
theorem num_c (n : Int) (h0 : -9223372036854775808 ≤ n) (h1 : n ≤ 9223372036854775807) : Con Try.prog 83 [.int n] (.int (n % 10007)) := by
  have e := num_law n
  have b := num_low n
  refine con_of_vc Try.mixed ⟨3, [], [], []⟩ Try.func83 (by decide) rfl (by simp) (by decide) rfl ?_
  rw [Try.ntmps83]
  simp [go_sem, e]
  omega
theorem l01Mod_c (n : Int) (h0 : -9223372036854775808 ≤ n) (h1 : n ≤ 9223372036854775807) : Con Try.prog 163 [.int n] (.int (n % 10007)) := by
  have e := num_law n
  have b := num_low n
  refine con_of_vc Try.mixed ⟨3, [], [], []⟩ Try.func163 (by decide) rfl (by simp) (by decide) rfl ?_
  rw [Try.ntmps163]
  simp [go_sem, e]
  omega
/-- A whole number that fits. -/
def fits (n : Int) : Prop := -9223372036854775808 ≤ n ∧ n ≤ 9223372036854775807
theorem l01Mul_c (a b : Int) (h : fits (a * b)) : Con Try.prog 77 [.int a, .int b] (.int (a * b % 10007)) := by
  refine con_of_vc Try.mixed ⟨5, [], [], []⟩ Try.func77 (by decide) rfl (by simp) (by decide) rfl ?_
  rw [Try.ntmps77]
  simp [go_sem]
  refine ⟨h, CallVC.of (l01Mod_c _ h.1 h.2) (by decide) ?_⟩
  simp [go_sem]
theorem l01Sub_c (a b : Int) (h : fits (a - b)) : Con Try.prog 122 [.int a, .int b] (.int ((a - b) % 10007)) := by
  refine con_of_vc Try.mixed ⟨5, [], [], []⟩ Try.func122 (by decide) rfl (by simp) (by decide) rfl ?_
  rw [Try.ntmps122]
  simp [go_sem]
  refine ⟨h, CallVC.of (l01Mod_c _ h.1 h.2) (by decide) ?_⟩
  simp [go_sem]
theorem l01Add_c (a b : Int) (h : fits (a + b)) : Con Try.prog 123 [.int a, .int b] (.int ((a + b) % 10007)) := by
  refine con_of_vc Try.mixed ⟨5, [], [], []⟩ Try.func123 (by decide) rfl (by simp) (by decide) rfl ?_
  rw [Try.ntmps123]
  simp [go_sem]
  refine ⟨h, CallVC.of (l01Mod_c _ h.1 h.2) (by decide) ?_⟩
  simp [go_sem]
/-- Numbers of the field. -/
def isN (a : Int) : Prop := 0 ≤ a ∧ a < 10007
theorem isN_mod (n : Int) : isN (n % 10007) := ⟨Int.emod_nonneg _ (by omega), Int.emod_lt_of_pos _ (by omega)⟩
theorem mul_bound {a b : Int} (ha : isN a) (hb : isN b) : 0 ≤ a * b ∧ a * b ≤ 100120036 := by
  obtain ⟨a0, a1⟩ := ha
  obtain ⟨b0, b1⟩ := hb
  exact ⟨Int.mul_nonneg a0 b0, Int.le_trans (Int.mul_le_mul_of_nonneg_right (show a ≤ 10006 by omega) b0) (by omega)⟩
theorem mul_fits {a b : Int} (ha : isN a) (hb : isN b) : fits (a * b) := by
  have := mul_bound ha hb
  exact ⟨by omega, by omega⟩
theorem add_fits {a b : Int} (ha : isN a) (hb : isN b) : fits (a + b) := by
  obtain ⟨a0, a1⟩ := ha
  obtain ⟨b0, b1⟩ := hb
  exact ⟨by omega, by omega⟩
theorem sub_fits {a b : Int} (ha : isN a) (hb : isN b) : fits (a - b) := by
  obtain ⟨a0, a1⟩ := ha
  obtain ⟨b0, b1⟩ := hb
  exact ⟨by omega, by omega⟩
theorem pow_mod (a : Int) (k : Nat) : (a % 10007) ^ k % 10007 = a ^ k % 10007 := by
  induction k with
  | zero => simp
  | succ k ih => rw [Int.pow_succ, Int.pow_succ, Int.mul_emod, ih, Int.emod_emod, ← Int.mul_emod]
theorem sq_pow (a : Int) (q : Nat) : (a * a) ^ q = a ^ (2 * q) := by
  induction q with
  | zero => simp
  | succ q ih => rw [Int.pow_succ, ih, show 2 * (q + 1) = 2 * q + 1 + 1 by omega, Int.pow_succ, Int.pow_succ, Int.mul_assoc]
theorem mod_mul_r (o x : Int) : o * (x % 10007) % 10007 = o * x % 10007 := by
  rw [Int.mul_emod, Int.emod_emod, ← Int.mul_emod]
theorem mod_mul_l (o x : Int) : (x % 10007) * o % 10007 = x * o % 10007 := by
  rw [Int.mul_emod, Int.emod_emod, ← Int.mul_emod]
theorem pw_even (o a : Int) (q : Nat) : o * (a * a % 10007) ^ q % 10007 = o * a ^ (2 * q) % 10007 := by
  rw [← mod_mul_r, pow_mod, mod_mul_r, sq_pow]
theorem pw_odd (o a : Int) (q : Nat) : (o * a % 10007) * (a * a % 10007) ^ q % 10007 = o * a ^ (2 * q + 1) % 10007 := by
  rw [pw_even, mod_mul_l, Int.pow_succ, Int.mul_assoc, Int.mul_comm (a ^ (2 * q)) a]
theorem half_cast (j : Nat) : (j : Int).tdiv 2 = ((j / 2 : Nat) : Int) := by rw [tdiv_up (by omega)]; omega
theorem bit_cast (j : Nat) : (j : Int).tmod 2 = ((j % 2 : Nat) : Int) := by rw [tmod_up (by omega)]; omega
theorem pow_c (a k : Int) (ha : isN a) (hk : 0 ≤ k) (hk2 : k ≤ 9223372036854775807) : Con Try.prog 158 [.int a, .int k] (.int (pw a k)) := by
  refine con_of_vc Try.mixed ⟨6, [], [], []⟩ Try.func158 (by decide) rfl (by simp) (by decide) rfl ?_
  rw [Try.ntmps158]
  simp [go_sem]
  refine loop_inv (0 :: 1 :: List.range' 4 30) (fun x : Int × Nat × Int => [(0, .int x.1), (1, .int x.2.1), (5, .int x.2.2)])
    (fun x => isN x.1 ∧ (x.2.1 : Int) ≤ 9223372036854775807 ∧ isN x.2.2 ∧ x.2.2 * x.1 ^ x.2.1 % 10007 = a ^ k.toNat % 10007) (fun x => x.2.1) (a, k.toNat, 1) ⟨ha, by simp; omega, ⟨by simp, by simp⟩, by simp⟩ (by simp [go_sem]; omega) (by simp [go_sem]) ?_
  rintro ⟨b, j, o⟩ ⟨hb, hj, ho, he⟩
  simp only at hb hj ho he
  have f1 := mul_fits hb hb
  have f2 := mul_fits ho hb
  simp [go_sem]
  refine ⟨fun h => ?_, fun h => ?_⟩ <;> simp at h
  · simp [go_sem, half_cast, bit_cast]
    refine ⟨fun h2 => ?_, fun h2 => ?_⟩ <;> simp at h2 <;> simp [go_sem]
    · refine ⟨f2, CallVC.of (num_c _ f2.1 f2.2) (by decide) ?_⟩
      simp [go_sem]
      refine ⟨f1, CallVC.of (num_c _ f1.1 f1.2) (by decide) ?_⟩
      simp [go_sem, half_cast, bit_cast]
      refine ⟨by omega, b * b % 10007, j / 2, o * b % 10007, ⟨isN_mod _, by omega, isN_mod _, ?_⟩, by omega, Off_reset _ _ _ (by simp), rfl, by omega, rfl⟩
      rw [pw_odd, show 2 * (j / 2) + 1 = j by omega, he]
    · refine ⟨f1, CallVC.of (num_c _ f1.1 f1.2) (by decide) ?_⟩
      simp [go_sem, half_cast, bit_cast]
      refine ⟨by omega, b * b % 10007, j / 2, o, ⟨isN_mod _, by omega, ho, ?_⟩, by omega, Off_reset _ _ _ (by simp), rfl, by omega, rfl⟩
      rw [pw_even, show 2 * (j / 2) = j by omega, he]
  · simp [go_sem]
    subst h
    unfold pw
    rw [← he]
    simp
    rw [Int.emod_eq_of_lt ho.1 ho.2]
theorem l01Pow_c (a k : Int) (ha : isN a) (hk : 0 ≤ k) (hk2 : k ≤ 9223372036854775807) : Con Try.prog 162 [.int a, .int k] (.int (pw a k)) := by
  refine con_of_vc Try.mixed ⟨6, [], [], []⟩ Try.func162 (by decide) rfl (by simp) (by decide) rfl ?_
  rw [Try.ntmps162]
  simp [go_sem]
  refine loop_inv (0 :: 1 :: List.range' 4 30) (fun x : Int × Nat × Int => [(0, .int x.1), (1, .int x.2.1), (5, .int x.2.2)])
    (fun x => isN x.1 ∧ (x.2.1 : Int) ≤ 9223372036854775807 ∧ isN x.2.2 ∧ x.2.2 * x.1 ^ x.2.1 % 10007 = a ^ k.toNat % 10007) (fun x => x.2.1) (a, k.toNat, 1) ⟨ha, by simp; omega, ⟨by simp, by simp⟩, by simp⟩ (by simp [go_sem]; omega) (by simp [go_sem]) ?_
  rintro ⟨b, j, o⟩ ⟨hb, hj, ho, he⟩
  simp only at hb hj ho he
  have f1 := mul_fits hb hb
  have f2 := mul_fits ho hb
  simp [go_sem]
  refine ⟨fun h => ?_, fun h => ?_⟩ <;> simp at h
  · simp [go_sem, half_cast, bit_cast]
    refine ⟨fun h2 => ?_, fun h2 => ?_⟩ <;> simp at h2 <;> simp [go_sem]
    · refine CallVC.of (l01Mul_c _ _ f2) (by decide) ?_
      simp [go_sem]
      refine CallVC.of (l01Mul_c _ _ f1) (by decide) ?_
      simp [go_sem, half_cast, bit_cast]
      refine ⟨by omega, b * b % 10007, j / 2, o * b % 10007, ⟨isN_mod _, by omega, isN_mod _, ?_⟩, by omega, Off_reset _ _ _ (by simp), rfl, by omega, rfl⟩
      rw [pw_odd, show 2 * (j / 2) + 1 = j by omega, he]
    · refine CallVC.of (l01Mul_c _ _ f1) (by decide) ?_
      simp [go_sem, half_cast, bit_cast]
      refine ⟨by omega, b * b % 10007, j / 2, o, ⟨isN_mod _, by omega, ho, ?_⟩, by omega, Off_reset _ _ _ (by simp), rfl, by omega, rfl⟩
      rw [pw_even, show 2 * (j / 2) = j by omega, he]
  · simp [go_sem]
    subst h
    unfold pw
    rw [← he]
    simp
    rw [Int.emod_eq_of_lt ho.1 ho.2]

theorem inv_c (a : Int) (ha : isN a) : Con Try.prog 84 [.int a] (.int (pw a 10005)) := by
  refine con_of_vc Try.mixed ⟨3, [], [], []⟩ Try.func84 (by decide) rfl (by simp) (by decide) rfl ?_
  rw [Try.ntmps84]
  simp [go_sem]
  refine CallVC.of (pow_c _ _ ha (by omega) (by omega)) (by decide) ?_
  simp [go_sem]
theorem l01Inv_c (a : Int) (ha : isN a) : Con Try.prog 78 [.int a] (.int (pw a 10005)) := by
  refine con_of_vc Try.mixed ⟨3, [], [], []⟩ Try.func78 (by decide) rfl (by simp) (by decide) rfl ?_
  rw [Try.ntmps78]
  simp [go_sem]
  refine CallVC.of (l01Pow_c _ _ ha (by omega) (by omega)) (by decide) ?_
  simp [go_sem]
def fact : Nat → Int
  | 0 => 1
  | n + 1 => fact n * (n + 1)
theorem fact_pos : ∀ n, 1 ≤ fact n
  | 0 => by simp [fact]
  | n + 1 => by
    have := fact_pos n
    have : 1 * 1 ≤ fact n * (n + 1 : Int) := Int.mul_le_mul this (by omega) (by omega) (by omega)
    simp [fact]; omega
theorem fact_mono (n : Nat) : fact n ≤ fact (n + 1) := by
  have := fact_pos n
  have : fact n * 1 ≤ fact n * (n + 1 : Int) := Int.mul_le_mul_of_nonneg_left (by omega) (by omega)
  simp [fact]; omega
theorem fact_le {n m : Nat} (h : n ≤ m) : fact n ≤ fact m := by
  induction m with
  | zero => rw [show n = 0 by omega]; omega
  | succ m ih => rcases Nat.lt_or_ge n (m + 1) with hl | hl
                 · exact Int.le_trans (ih (by omega)) (fact_mono m)
                 · rw [show n = m + 1 by omega]; omega
theorem fact_20 {n : Nat} (h : n ≤ 20) : 1 ≤ fact n ∧ fact n ≤ 9223372036854775807 :=
  ⟨fact_pos n, Int.le_trans (fact_le h) (by decide)⟩
theorem factorial_c (n : Nat) (h : n ≤ 20) : Con Try.prog 200 [.int n] (.int (fact n)) := by
  refine con_of_vc Try.mixed ⟨5, [], [], []⟩ Try.func200 (by decide) rfl (by simp) (by decide) rfl ?_
  rw [Try.ntmps200]
  simp [go_sem]
  refine loop_inv (List.range' 2 20) (fun k : Nat => [(3, .int (fact (k + 1))), (4, .int (k + 2))]) (fun k => k ≤ n - 1) (fun k => n - k) 0 (by simp) (by simp [go_sem]; decide) (by simp [go_sem]) ?_
  intro k hk
  simp [go_sem]
  refine ⟨fun h2 => ?_, fun h2 => ?_⟩ <;> simp at h2
  · have e : fact (k + 1) * ((k : Int) + 2) = fact (k + 1 + 1) := by simp only [fact]; rw [show ((k + 1 : Nat) : Int) + 1 = (k : Int) + 2 by omega]
    have b := fact_20 (show k + 1 + 1 ≤ 20 by omega)
    simp [go_sem, e]
    refine ⟨by omega, by omega, k + 1, by omega, by omega, Off_reset _ _ _ (by simp), rfl, by omega⟩
  · simp [go_sem]
    rcases (show k = 0 ∧ n ≤ 1 ∨ k + 1 = n by omega) with ⟨rfl, _⟩ | hk
    · have : n = 0 ∨ n = 1 := by omega
      rcases this with rfl | rfl <;> rfl
    · rw [hk]
theorem l19Factorial_c (n : Nat) (h : n ≤ 20) : Con Try.prog 201 [.int n] (.int (fact n % 10007)) := by
  refine con_of_vc Try.mixed ⟨5, [], [], []⟩ Try.func201 (by decide) rfl (by simp) (by decide) rfl ?_
  rw [Try.ntmps201]
  simp [go_sem]
  refine loop_inv (0 :: List.range' 2 20) (fun x : Nat × Int => [(0, .int x.1), (3, .int x.2)]) (fun x => x.1 ≤ n ∧ isN x.2 ∧ x.2 * fact x.1 % 10007 = fact n % 10007) (fun x => x.1) (n, 1) ⟨by simp, ⟨by simp, by simp⟩, by simp⟩ (by simp [go_sem]) (by simp [go_sem]) ?_
  rintro ⟨k, o⟩ ⟨hk, ho, he⟩
  simp only at hk ho he
  simp [go_sem]
  refine ⟨fun h2 => ?_, fun h2 => ?_⟩ <;> simp at h2
  · obtain ⟨j, rfl⟩ : ∃ j, k = j + 1 := ⟨k - 1, by omega⟩
    simp [go_sem]
    refine CallVC.of (l01Mul_c _ _ (mul_fits ho ⟨by omega, by omega⟩)) (by decide) ?_
    simp [go_sem]
    refine ⟨by omega, j, o * (j + 1) % 10007, ⟨by omega, isN_mod _, ?_⟩, by omega, Off_reset _ _ _ (by simp), by omega, rfl⟩
    rw [mod_mul_l, ← he]
    simp [fact, Int.mul_assoc, Int.mul_comm (fact j)]
  · simp [go_sem]
    have : k = 0 ∨ k = 1 := by omega
    rw [← he]
    rcases this with rfl | rfl <;> simp [fact] <;> rw [Int.emod_eq_of_lt ho.1 ho.2]
end Go.Proofs.Ytoamidolomldnaa

/- Contracts: marks of tableaus, sums of products, products of a matrix with a row. -/
namespace Go.Proofs.Ytoamidolomldnaa
open Go.Abs
set_option linter.unusedVariables false
set_option linter.unusedSimpArgs false
set_option maxHeartbeats 1000000
theorem markTableau_c (A : List (List Int)) (B : List Int) (k : Int) (hA : A.length ≤ 1048576) (hr : ∀ r ∈ A, r.length ≤ 1048576) (h0 : 0 ≤ k) (h1 : k + sumL A + B.length ≤ 9223372036854775807) :
    MCon Try.prog 23 [.agg [.own 23 A.length (omat A), .own 2 B.length (avs B)], .int k] (.int (k + sumL A + B.length))
      [.agg [.own 23 A.length (omat (marksM A k)), .own 2 B.length (avs (marks B.length (k + sumL A)))], .any] := by
  refine mcon_of_vc Try.mixed ⟨5, [], [25, 24], []⟩ [4] [0] Try.func23 (by decide) rfl rfl (by simp) (by simp) (by simp) (by decide) ?_
  rw [Try.ntmps23]
  simp [go_sem]
  refine ⟨_, _, markInt64SS_c A k hA hr h0 (by omega), ?_⟩
  simp [go_sem]
  refine ⟨_, _, markInt64S_c 2 B (k + sumL A) (by omega) (by omega), ?_⟩
  simp [go_sem]
  rfl
end Go.Proofs.Ytoamidolomldnaa

/- Contracts: sums of products, products of a matrix with a row, the stability series. -/
namespace Go.Proofs.Ytoamidolomldnaa
open Go.Abs
set_option linter.unusedVariables false
set_option linter.unusedSimpArgs false
set_option maxHeartbeats 1000000
def dotI : List Int → List Int → Int
  | x :: xs, y :: ys => x * y + dotI xs ys
  | _, _ => 0
theorem dotI_take : ∀ {xs ys : List Int} {k : Nat}, k < xs.length → k < ys.length → dotI (xs.take (k + 1)) (ys.take (k + 1)) = dotI (xs.take k) (ys.take k) + xs[k]?.getD 0 * ys[k]?.getD 0
  | x :: xs, y :: ys, 0, _, _ => by simp [dotI]
  | x :: xs, y :: ys, k + 1, h, h2 => by
    have := dotI_take (xs := xs) (ys := ys) (k := k) (by simpa using h) (by simpa using h2)
    simp only [List.take_succ_cons, dotI, this, List.getElem?_cons_succ]; omega
theorem dotI_short : ∀ {xs ys : List Int}, xs.length ≤ ys.length → dotI xs (ys.take xs.length) = dotI xs ys
  | [], ys, _ => by simp [dotI]
  | x :: xs, [], h => by simp at h
  | x :: xs, y :: ys, h => by simp [dotI, dotI_short (xs := xs) (ys := ys) (by simpa using h)]
def Ns (xs : List Int) : Prop := ∀ x ∈ xs, isN x
theorem Ns.get {xs : List Int} (h : Ns xs) (k : Nat) : isN (xs[k]?.getD 0) := by
  rcases Nat.lt_or_ge k xs.length with hk | hk
  · simp [hk]; exact h _ (List.getElem_mem hk)
  · simp [hk]; exact ⟨by omega, by omega⟩
theorem Ns.take {xs : List Int} (h : Ns xs) (k : Nat) : Ns (xs.take k) := fun x hx => h x (List.mem_of_mem_take hx)
theorem Ns.snoc {xs : List Int} (h : Ns xs) {x : Int} (hx : isN x) : Ns (xs ++ [x]) := fun y hy => by
  rcases List.mem_append.1 hy with hy | hy
  · exact h y hy
  · simp at hy; subst hy; exact hx
theorem Ns.nil : Ns [] := by intro x hx; simp at hx
theorem dotI_bound : ∀ {xs ys : List Int}, Ns xs → Ns ys → 0 ≤ dotI xs ys ∧ dotI xs ys ≤ xs.length * 100120036
  | [], ys, _, _ => by simp [dotI]
  | x :: xs, [], _, _ => by simp [dotI]; omega
  | x :: xs, y :: ys, hx, hy => by
    have h1 := dotI_bound (xs := xs) (ys := ys) (fun z hz => hx z (by simp [hz])) (fun z hz => hy z (by simp [hz]))
    have h2 := mul_bound (hx x (by simp)) (hy y (by simp))
    simp only [dotI, List.length_cons]; omega
theorem dot_c (xs ys : List Int) (hl : xs.length ≤ ys.length) (h64 : xs.length ≤ 64) (hx : Ns xs) (hy : Ns ys) : Con Try.prog 98 [.sl xs.length (avs xs), .sl ys.length (avs ys)] (.int (dotI xs ys % 10007)) := by
  refine con_of_vc Try.mixed ⟨8, [], [], []⟩ Try.func98 (by decide) rfl (by simp) (by decide) (by simp [freshOK, freshL, go_sem]) ?_
  rw [Try.ntmps98]
  simp [go_sem]
  refine loop_inv (5 :: 6 :: 7 :: List.range' 10 14) (fun k : Nat => [(5, .int (dotI (xs.take k) (ys.take k))), (10, .int k)]) (fun k => k ≤ xs.length) (fun k => xs.length - k) 0 (by simp) (by simp [go_sem, dotI]) (by simp [go_sem]) ?_
  intro k hk
  have b1 := dotI_bound (hx.take k) (hy.take k)
  have b2 := mul_bound (hx.get k) (hy.get k)
  simp only [List.length_take] at b1
  simp [go_sem]
  refine ⟨fun h => ?_, fun h => ?_⟩ <;> simp at h
  · have h2 : k < ys.length := by omega
    simp [go_sem, avs_drop h, avs_drop h2]
    refine ⟨⟨h, by rintro rfl; simp at h⟩, ⟨h2, by rintro rfl; simp at h2⟩, by omega, by omega, by omega, k + 1, by omega, by omega, Off_reset _ _ _ (by simp), (dotI_take h h2).symm, by omega⟩
  · have e : k = xs.length := by omega
    subst e
    have := dotI_bound hx hy
    rw [List.take_length, dotI_short hl] at *
    simp [go_sem]
    refine CallVC.of (num_c _ (by omega) (by omega)) (by decide) ?_
    simp [go_sem]
theorem l01Dot_c (xs ys : List Int) (hl : xs.length ≤ ys.length) (h64 : xs.length ≤ 9223372036854775807) (hx : Ns xs) (hy : Ns ys) : Con Try.prog 213 [.sl xs.length (avs xs), .sl ys.length (avs ys)] (.int (dotI xs ys % 10007)) := by
  refine con_of_vc Try.mixed ⟨7, [], [], []⟩ Try.func213 (by decide) rfl (by simp) (by decide) (by simp [freshOK, freshL, go_sem]) ?_
  rw [Try.ntmps213]
  simp [go_sem]
  refine loop_inv (List.range' 5 25) (fun k : Nat => [(5, .int (dotI (xs.take k) (ys.take k) % 10007)), (6, .int k)]) (fun k => k ≤ xs.length) (fun k => xs.length - k) 0 (by simp) (by simp [go_sem, dotI]) (by simp [go_sem]) ?_
  intro k hk
  simp [go_sem]
  refine ⟨fun h => ?_, fun h => ?_⟩ <;> simp at h
  · have h2 : k < ys.length := by omega
    simp [go_sem, avs_drop h, avs_drop h2]
    refine ⟨by kernel_rfl, ⟨h, by rintro rfl; simp at h⟩, ⟨h2, by rintro rfl; simp at h2⟩, ?_⟩
    refine CallD.of (l01Mul_c _ _ (mul_fits (hx.get k) (hy.get k))) (by simp [roots, rootsL]) (by decide) ?_
    simp [go_sem]
    refine CallD.of (l01Add_c _ _ (add_fits (isN_mod _) (isN_mod _))) (by simp [roots, rootsL]) (by decide) ?_
    simp [go_sem]
    refine ⟨by kernel_rfl, ?_⟩
    simp [go_sem]
    refine ⟨by omega, k + 1, by omega, by omega, Off_reset _ _ _ (by simp), ?_, by omega⟩
    rw [dotI_take h h2]
  · have e : k = xs.length := by omega
    subst e
    rw [List.take_length, dotI_short hl]
    simp [go_sem]
/-- Rows by a row. -/
def tim (A : List (List Int)) (v : List Int) : List Int := A.map fun r => dotI r v % 10007
@[simp] theorem tim_len (A : List (List Int)) (v : List Int) : (tim A v).length = A.length := by simp [tim]
theorem tim_take {A : List (List Int)} {v : List Int} {k : Nat} (h : k < A.length) : tim (A.take (k + 1)) v = tim (A.take k) v ++ [dotI (A[k]?.getD []) v % 10007] := by
  rw [tim, tim, List.take_add_one, List.getElem?_eq_getElem h]
  simp only [List.map_append, List.map_cons, List.map_nil, Option.toList_some, Option.getD_some]
theorem tim_N (A : List (List Int)) (v : List Int) : Ns (tim A v) := by
  intro x hx
  simp [tim] at hx
  obtain ⟨r, _, rfl⟩ := hx
  exact isN_mod _
/-- A matrix of numbers with rows of n. -/
def Mat (n : Nat) (A : List (List Int)) : Prop := ∀ r ∈ A, r.length = n ∧ Ns r
theorem Mat.get {n : Nat} {A : List (List Int)} (h : Mat n A) {k : Nat} (hk : k < A.length) : (A[k]?.getD []).length = n ∧ Ns (A[k]?.getD []) := by
  rw [List.getElem?_eq_getElem hk]; exact h _ (List.getElem_mem hk)
theorem applied_c (A : List (List Int)) (B v : List Int) (hA : Mat v.length A) (h64 : v.length ≤ 64) (hl : A.length ≤ 1048576) (hv : Ns v) :
    Con Try.prog 211 [.agg [.sl A.length (mat A), .sl B.length (avs B)], .sl v.length (avs v)] (.own 2 A.length (avs (tim A v))) := by
  refine con_of_vc Try.mixed ⟨8, [], [], []⟩ Try.func211 (by decide) rfl (by simp) (by decide) (by simp [freshOK, freshL, go_sem]) ?_
  rw [Try.ntmps211]
  simp [go_sem]
  refine loop_inv (5 :: 6 :: 7 :: List.range' 12 11) (fun k : Nat => [(5, .own 2 k (avs (tim (A.take k) v))), (12, .int k)]) (fun k => k ≤ A.length) (fun k => A.length - k) 0 (by simp) (by simp [go_sem, tim]) (by simp [go_sem]) ?_
  intro k hk
  simp [go_sem]
  refine ⟨fun h => ?_, fun h => ?_⟩ <;> simp at h
  · have g1 := (hA.get h).1
    have g2 := (hA.get h).2
    simp [go_sem, mat_drop h]
    refine ⟨⟨h, by rintro rfl; simp at h⟩, ?_⟩
    refine CallVC.of (dot_c _ v (by omega) (by omega) g2 hv) (by decide) ?_
    simp [go_sem]
    refine ⟨⟨by omega, by omega⟩, by omega, k + 1, by omega, by omega, Off_reset _ _ _ (by simp), ?_, by omega⟩
    simp [tim_take h, avs_snoc]
  · simp [go_sem]
    have e : k = A.length := by omega
    subst e; simp
theorem l09Times_c (A : List (List Int)) (v : List Int) (hA : Mat v.length A) (h64 : v.length ≤ 1048576) (hl : A.length ≤ 1048576) (hv : Ns v) :
    Con Try.prog 170 [.sl A.length (mat A), .sl v.length (avs v)] (.own 2 A.length (avs (tim A v))) := by
  refine con_of_vc Try.mixed ⟨7, [], [], []⟩ Try.func170 (by decide) rfl (by simp) (by decide) (by simp [freshOK, freshL, go_sem]) ?_
  rw [Try.ntmps170]
  simp [go_sem]
  refine loop_inv (List.range' 5 25) (fun k : Nat => [(5, .own 2 k (avs (tim (A.take k) v))), (6, .int k)]) (fun k => k ≤ A.length) (fun k => A.length - k) 0 (by simp) (by simp [go_sem, tim]) (by simp [go_sem]) ?_
  intro k hk
  simp [go_sem]
  refine ⟨fun h => ?_, fun h => ?_⟩ <;> simp at h
  · have g1 := (hA.get h).1
    have g2 := (hA.get h).2
    simp [go_sem, mat_drop h]
    refine ⟨⟨h, by rintro rfl; simp at h⟩, ?_⟩
    refine CallVC.of (l01Dot_c _ v (by omega) (by omega) g2 hv) (by decide) ?_
    simp [go_sem]
    refine ⟨⟨by omega, by omega⟩, by omega, k + 1, by omega, by omega, Off_reset _ _ _ (by simp), ?_, by omega⟩
    simp [tim_take h, avs_snoc]
  · simp [go_sem]
    have e : k = A.length := by omega
    subst e; simp
end Go.Proofs.Ytoamidolomldnaa

/- Contracts: repeated rows. -/
namespace Go.Proofs.Ytoamidolomldnaa
open Go.Abs
set_option linter.unusedVariables false
set_option linter.unusedSimpArgs false
set_option maxHeartbeats 1000000
abbrev u64 (n : Int) : AV := .val (.int .u64 n)
theorem and_low {x : Int} (h0 : 0 ≤ x) (h1 : x < 4294967296) : andI .u64 x 4294967295 = x := by
  obtain ⟨n, rfl⟩ := Int.eq_ofNat_of_zero_le h0
  have hn : n < 2 ^ 32 := by omega
  have e1 : (BitVec.ofInt 64 (n : Int)).toNat = n := by
    rw [BitVec.toNat_ofInt]; simp; omega
  have e2 : (BitVec.ofInt 64 4294967295).toNat = 2 ^ 32 - 1 := by decide
  show IntKind.wrap .u64 ((BitVec.ofInt 64 (n : Int) &&& BitVec.ofInt 64 4294967295).toNat : Int) = n
  rw [BitVec.toNat_and, e1, e2, Nat.and_two_pow_sub_one_eq_mod, Nat.mod_eq_of_lt hn]
  exact wrap_in (by
    have e1 : IntKind.min .u64 = 0 := by decide
    have e2 : IntKind.max .u64 = 18446744073709551615 := by decide
    unfold inK; rw [e1, e2]; omega)
theorem wrap_u64 {x : Int} (h0 : 0 ≤ x) (h1 : x < 18446744073709551616) : IntKind.wrap .u64 x = x := wrap_in (by
  have e1 : IntKind.min .u64 = 0 := by decide
  have e2 : IntKind.max .u64 = 18446744073709551615 := by decide
  unfold inK; rw [e1, e2]; omega)
theorem shr_low {x : Int} (h0 : 0 ≤ x) (h1 : x < 4294967296) : shrI .u64 x 32 = 0 := by
  show x.fdiv (2 ^ min (32 : Int).toNat 64) = 0
  rw [show ((2 : Int) ^ min (32 : Int).toNat 64) = 4294967296 from rfl, Int.fdiv_eq_ediv_of_nonneg _ (by omega)]; omega
set_option maxRecDepth 100000 in
theorem Mul64_c (x y : Int) (hx : 0 ≤ x) (hx1 : x < 4294967296) (hy : 0 ≤ y) (hy1 : y < 4294967296) (h0 : 0 ≤ x * y) (h : x * y < 4294967296) : Con Try.prog 271 [u64 x, u64 y] (.tup [u64 0, u64 (x * y)]) := by
  have a0 := and_low (Int.le_refl 0) (by omega)
  have a1 := and_low hx hx1
  have a2 := and_low hy hy1
  have s0 := shr_low (Int.le_refl 0) (by omega)
  have s1 := shr_low hx hx1
  have s2 := shr_low hy hy1
  have s3 := shr_low h0 h
  have w3 := wrap_u64 h0 (by omega)
  have w0 := wrap_u64 (Int.le_refl 0) (by omega)
  refine con_of_vc Try.mixed ⟨14, [], [], []⟩ Try.func271 (by decide) rfl (by simp) (by decide) (by simp [freshOK, freshL]) ?_
  rw [Try.ntmps271]
  simp [go_sem, a0, a1, a2, s0, s1, s2, s3, w3, w0]
theorem Mul_c (x y : Int) (hx : 0 ≤ x) (hx1 : x < 4294967296) (hy : 0 ≤ y) (hy1 : y < 4294967296) (h0 : 0 ≤ x * y) (h : x * y < 4294967296) : Con Try.prog 253 [u64 x, u64 y] (.tup [u64 0, u64 (x * y)]) := by
  refine con_of_vc Try.mixed ⟨10, [], [], []⟩ Try.func253 (by decide) rfl (by simp) (by decide) (by simp [freshOK, freshL, go_sem]) ?_
  rw [Try.ntmps253]
  simp [go_sem]
  refine CallVC.of (Mul64_c x y hx hx1 hy hy1 h0 h) (by decide) ?_
  simp [go_sem]
theorem rep_copy (x : Int) (s n : Nat) (h : n ≤ s) : setMany (avs (List.replicate n x ++ List.replicate (s - n) 0)) n ((avs (List.replicate n x ++ List.replicate (s - n) 0)).take (min n (s - n))) =
    avs (List.replicate (n + min n (s - n)) x ++ List.replicate (s - (n + min n (s - n))) 0) := by
  rw [setMany_eq _ _ _ (by simp; omega)]
  simp only [avs, ← List.map_take, ← List.map_drop, ← List.map_append]
  congr 1
  simp only [List.take_append_of_le_length (show min n (s - n) ≤ (List.replicate n x).length by simp; omega), List.take_append_of_le_length (show n ≤ (List.replicate n x).length by simp), List.take_replicate, Nat.min_self, Nat.min_eq_left (Nat.min_le_left n (s - n))]
  rw [List.drop_append]
  simp
  omega
/-- A row repeated: one number. -/
theorem Repeat_c (x : Int) (s : Nat) (h1 : 1 ≤ s) (h2 : s ≤ 1000) : Con Try.prog 209 [.sl 1 [.int x], .int s] (.own 2 s (avs (List.replicate s x))) := by
  have w1 : IntKind.wrap .u64 1 = 1 := by decide
  have w2 : IntKind.wrap .u64 (s : Int) = s := wrap_u64 (by omega) (by omega)
  refine con_of_vc Try.mixed ⟨9, [], [], []⟩ Try.func209 (by decide) rfl (by simp) (by decide) (by simp [freshOK, freshL, go_sem]) ?_
  rw [Try.ntmps209]
  simp [go_sem]
  refine ⟨fun h => ?_, fun _ => ?_⟩
  · simp at h; omega
  simp [go_sem, w1, w2]
  refine CallVC.of (Mul_c 1 s (by omega) (by omega) (by omega) (by omega) (by omega) (by omega)) (by decide) ?_
  have e1 : (1 : Int) * s = s := by omega
  simp [go_sem, e1]
  refine ⟨fun h => ?_, fun _ => ?_⟩
  · simp at h; omega
  simp [go_sem]
  refine ⟨by omega, ⟨by omega, by omega⟩, ⟨by omega, by omega, by omega⟩, ?_⟩
  refine loop_inv (7 :: 8 :: List.range' 34 13) (fun n : Nat => [(7, .own 2 s (avs (List.replicate n x ++ List.replicate (s - n) 0))), (8, .int n)]) (fun n => 1 ≤ n ∧ n ≤ s) (fun n => s - n) 1 ⟨by omega, h1⟩ ?_ (by simp [go_sem]) ?_
  · simp [go_sem]
    obtain ⟨m, rfl⟩ : ∃ m, s = m + 1 := ⟨s - 1, by omega⟩
    simp [List.replicate_succ, avs_cons, setMany, avs_repl, go_sem]
  rintro n ⟨hn1, hn2⟩
  simp [go_sem]
  refine ⟨fun h => ?_, fun h => ?_⟩ <;> simp at h
  · have hz : ¬ n = 0 := by omega
    simp [go_sem, hz]
    refine ⟨by kernel_rfl, h, ⟨by omega, by omega⟩, ⟨by omega, by omega⟩, ⟨by omega, by omega⟩, ?_⟩
    refine ⟨by kernel_rfl, ?_⟩
    simp [go_sem]
    refine ⟨n + min n (s - n), ⟨by omega, by omega⟩, by omega, Off_reset _ _ _ (by simp), ?_, by omega⟩
    have hc := rep_copy x s n (by omega)
    simpa using hc
  · simp [go_sem]
    have e : n = s := by omega
    subst e; simp
end Go.Proofs.Ytoamidolomldnaa

/- Contracts: the stability series. -/
namespace Go.Proofs.Ytoamidolomldnaa
open Go.Abs
set_option linter.unusedVariables false
set_option linter.unusedSimpArgs false
set_option maxHeartbeats 1000000
theorem specIsNumber_c (a : Int) : Con Try.prog 74 [.int a] (.bool (decide (0 ≤ a ∧ a ≤ 10006))) := by
  refine con_of_vc Try.mixed ⟨3, [], [], []⟩ Try.func74 (by decide) rfl (by simp) (by decide) (by simp [freshOK, freshL, go_sem]) ?_
  rw [Try.ntmps74]
  simp [go_sem]
  refine CallVC.of (l01In_c _ _ _) (by decide) ?_
  simp [go_sem]
theorem numsB_bad {xs : List Int} {i : Nat} (h : i < xs.length) (hb : ¬ (0 ≤ xs[i]?.getD 0 ∧ xs[i]?.getD 0 ≤ 10006)) : numsB xs = false := by
  rw [List.getElem?_eq_getElem h] at hb
  simp only [Option.getD_some] at hb
  unfold numsB
  rw [List.all_eq_false]
  exact ⟨xs[i], List.getElem_mem h, by simpa using hb⟩
theorem numsB_ok {xs : List Int} (h : ∀ x ∈ xs, 0 ≤ x ∧ x ≤ 10006) : numsB xs = true := by
  unfold numsB
  rw [List.all_eq_true]
  intro x hx
  simpa using h x hx
theorem numsB_N {xs : List Int} : numsB xs = true ↔ Ns xs := by
  unfold numsB Ns isN
  rw [List.all_eq_true]
  constructor
  · intro h x hx
    have := h x hx
    simp at this; omega
  · intro h x hx
    have := h x hx
    simp; omega
theorem take_all {α : Type} {p : α → Prop} {xs : List α} {i : Nat} (h : i < xs.length) (h1 : ∀ x ∈ xs.take i, p x) (h2 : p xs[i]) : ∀ x ∈ xs.take (i + 1), p x := by
  intro x hx
  rw [List.take_add_one, List.getElem?_eq_getElem h, Option.toList_some, List.mem_append, List.mem_singleton] at hx
  rcases hx with hx | rfl
  · exact h1 x hx
  · exact h2
theorem l01Numbers_c (xs : List Int) (hl : xs.length ≤ 9223372036854775807) : Con Try.prog 86 [.sl xs.length (avs xs)] (.bool (numsB xs)) := by
  refine con_of_vc Try.mixed ⟨4, [], [], []⟩ Try.func86 (by decide) rfl (by simp) (by decide) (by simp [freshOK, freshL, go_sem]) ?_
  rw [Try.ntmps86]
  simp [go_sem]
  refine loop_inv (List.range' 2 14) (fun i : Nat => [(3, .int i)]) (fun i => i ≤ xs.length ∧ ∀ x ∈ xs.take i, 0 ≤ x ∧ x ≤ 10006) (fun i => xs.length - i) 0 (by simp) (by simp [go_sem]) (by simp [go_sem]) ?_
  rintro i ⟨hi, hp⟩
  simp [go_sem]
  refine ⟨fun h => ?_, fun h => ?_⟩ <;> simp at h
  · simp [go_sem, avs_drop h]
    refine ⟨⟨h, by rintro rfl; simp at h⟩, ?_⟩
    refine CallVC.of (specIsNumber_c _) (by decide) ?_
    by_cases hb : 0 ≤ xs[i]?.getD 0 ∧ xs[i]?.getD 0 ≤ 10006
    · simp [go_sem, hb]
      refine ⟨by omega, i + 1, ⟨by omega, ?_⟩, by omega, Off_reset _ _ _ (by simp), by omega⟩
      rw [List.getElem?_eq_getElem h, Option.getD_some] at hb
      exact take_all h hp hb
    · have e : decide (0 ≤ xs[i]?.getD 0 ∧ xs[i]?.getD 0 ≤ 10006) = false := by simpa using hb
      rw [e]
      simp [go_sem]
      exact numsB_bad h hb
  · simp [go_sem]
    have e : i = xs.length := by omega
    subst e
    rw [List.take_length] at hp
    exact numsB_ok hp
theorem l09Is_c (A : List (List Int)) (B : List Int) (hA : A.length ≤ 9223372036854775807) (hB : B.length ≤ 9223372036854775807) (hr : ∀ r ∈ A, r.length ≤ 9223372036854775807) :
    Con Try.prog 73 [.agg [.sl A.length (mat A), .sl B.length (avs B)]] (.bool (tabB A B)) := by
  have bad : ¬ (1 ≤ B.length ∧ B.length ≤ 8 ∧ A.length = B.length) → tabB A B = false := fun h => by
    unfold tabB
    rw [decide_eq_false h]; rfl
  refine con_of_vc Try.mixed ⟨5, [], [], []⟩ Try.func73 (by decide) rfl (by simp) (by decide) (by simp [freshOK, freshL, go_sem]) ?_
  rw [Try.ntmps73]
  simp [go_sem]
  by_cases h1 : 1 ≤ B.length
  · by_cases h2 : B.length ≤ 8
    · by_cases h3 : A.length = B.length
      · have i1 : ¬ (B.length : Int) < 1 := by omega
        have i2 : ¬ 8 < (B.length : Int) := by omega
        have i3 : (A.length : Int) = B.length := by omega
        simp [go_sem, i1, i2, i3]
        refine CallVC.of (l01Numbers_c B hB) (by decide) ?_
        cases hB2 : numsB B with
        | false =>
          simp [go_sem]
          unfold tabB; rw [hB2]; simp
        | true =>
          simp [go_sem]
          refine loop_inv (2 :: 4 :: List.range' 27 22) (fun i : Nat => [(4, .int i)]) (fun i => i ≤ B.length ∧ ∀ r ∈ A.take i, r.length = B.length ∧ numsB r = true) (fun i => B.length - i) 0 (by simp) (by simp [go_sem]) (by simp [go_sem]) ?_
          rintro i ⟨hi, hp⟩
          have fine : tabB A B = A.all (fun r => decide (r.length = B.length) && numsB r) := by
            unfold tabB; rw [hB2, decide_eq_true ⟨h1, h2, h3⟩]; simp
          simp [go_sem]
          refine ⟨fun h => ?_, fun h => ?_⟩ <;> simp at h
          · have hA2 : i < A.length := by omega
            have wrong : ¬ ((A[i]?.getD []).length = B.length ∧ numsB (A[i]?.getD []) = true) → tabB A B = false := fun hb => by
              rw [List.getElem?_eq_getElem hA2, Option.getD_some] at hb
              rw [fine, List.all_eq_false]
              exact ⟨A[i], List.getElem_mem hA2, by simpa using hb⟩
            simp [go_sem, mat_drop hA2]
            refine ⟨⟨hA2, by rintro rfl; simp at hA2⟩, ?_⟩
            by_cases g1 : (A[i]?.getD []).length = B.length
            · have g1' : ((A[i]?.getD []).length : Int) = B.length := by omega
              simp [go_sem, g1', mat_drop hA2]
              refine ⟨⟨hA2, by rintro rfl; simp at hA2⟩, ?_⟩
              refine CallVC.of (l01Numbers_c _ (by omega)) (by decide) ?_
              cases g2 : numsB (A[i]?.getD []) with
              | false =>
                simp [go_sem]
                exact wrong (by rw [g2]; simp)
              | true =>
                simp [go_sem]
                refine ⟨by omega, i + 1, ⟨by omega, ?_⟩, by omega, Off_reset _ _ _ (by simp), by omega⟩
                rw [List.getElem?_eq_getElem hA2, Option.getD_some] at g1 g2
                exact take_all hA2 hp ⟨g1, g2⟩
            · have g1' : ¬ ((A[i]?.getD []).length : Int) = B.length := by omega
              simp [go_sem, g1']
              exact wrong (fun h => g1 h.1)
          · simp [go_sem]
            have e : i = A.length := by omega
            subst e
            rw [List.take_length] at hp
            rw [fine, List.all_eq_true]
            intro r hr
            simpa using hp r hr
      · have i1 : ¬ (B.length : Int) < 1 := by omega
        have i2 : ¬ 8 < (B.length : Int) := by omega
        have i3 : ¬ (A.length : Int) = B.length := by omega
        simp [go_sem, i1, i2, i3, bad (fun h => h3 h.2.2)]
    · have i1 : ¬ (B.length : Int) < 1 := by omega
      have i2 : 8 < (B.length : Int) := by omega
      simp [go_sem, i1, i2, bad (fun h => h2 h.2.1)]
  · have i1 : (B.length : Int) < 1 := by omega
    simp [go_sem, i1, bad (fun h => h1 h.1)]
theorem l09Ones_c (n : Nat) (hn : n ≤ 1000000) : Con Try.prog 212 [.int n] (.own 2 n (avs (List.replicate n 1))) := by
  refine con_of_vc Try.mixed ⟨4, [], [], []⟩ Try.func212 (by decide) rfl (by simp) (by decide) (by simp [freshOK, freshL, go_sem]) ?_
  rw [Try.ntmps212]
  simp [go_sem]
  refine loop_inv (0 :: List.range' 3 9) (fun i : Nat => [(0, .int (n - i : Nat)), (3, .own 2 i (avs (List.replicate i 1)))]) (fun i => i ≤ n) (fun i => n - i) 0 (by simp) (by simp [go_sem]) (by simp [go_sem]) ?_
  intro i hi
  simp [go_sem]
  refine ⟨fun h => ?_, fun h => ?_⟩ <;> simp at h
  · simp [go_sem]
    refine ⟨⟨by omega, by omega⟩, by omega, i + 1, by omega, by omega, Off_reset _ _ _ (by simp), by omega, ?_⟩
    simp [List.replicate_succ', avs_snoc]
  · simp [go_sem]
    have e : i = n := by omega
    subst e; simp
/-- The stage weights of the k-th power. -/
def wts (A : List (List Int)) (s : Nat) : Nat → List Int
  | 0 => List.replicate s 1
  | k + 1 => tim A (wts A s k)
def serL (A : List (List Int)) (B : List Int) (k : Nat) : List Int := 1 :: (List.range k).map fun i => dotI B (wts A B.length i) % 10007
@[simp] theorem serL_len (A : List (List Int)) (B : List Int) (k : Nat) : (serL A B k).length = k + 1 := by simp [serL]
theorem serL_succ (A : List (List Int)) (B : List Int) (k : Nat) : serL A B (k + 1) = serL A B k ++ [dotI B (wts A B.length k) % 10007] := by simp [serL, List.range_succ]
theorem wts_len {A : List (List Int)} {s : Nat} (h : A.length = s) : ∀ k, (wts A s k).length = s
  | 0 => by simp [wts]
  | k + 1 => by simp [wts, h]
theorem wts_N (A : List (List Int)) (s : Nat) : ∀ k, Ns (wts A s k)
  | 0 => by
    intro x hx
    simp [wts, List.mem_replicate] at hx
    rw [hx.2]; exact ⟨by omega, by omega⟩
  | k + 1 => tim_N _ _
structure Tab (A : List (List Int)) (B : List Int) : Prop where
  pos : 1 ≤ B.length
  le : B.length ≤ 8
  len : A.length = B.length
  b : Ns B
  a : Mat B.length A
theorem tabB_iff {A : List (List Int)} {B : List Int} : tabB A B = true ↔ Tab A B := by
  unfold tabB
  simp only [Bool.and_eq_true, decide_eq_true_eq, List.all_eq_true, numsB_N]
  constructor
  · rintro ⟨⟨⟨h1, h2, h3⟩, h4⟩, h5⟩
    exact ⟨h1, h2, h3, h4, fun r hr => h5 r hr⟩
  · rintro ⟨h1, h2, h3, h4, h5⟩
    exact ⟨⟨⟨h1, h2, h3⟩, h4⟩, fun r hr => h5 r hr⟩
theorem stabilitySeries_c (A : List (List Int)) (B : List Int) (n : Nat) (hT : Tab A B) (hn : n ≤ 15) :
    Con Try.prog 140 [.agg [.sl A.length (mat A), .sl B.length (avs B)], .int n] (.own 2 (n + 1) (avs (serL A B n))) := by
  have hp := hT.pos
  have hl := hT.le
  refine con_of_vc Try.mixed ⟨7, [], [], []⟩ Try.func140 (by decide) rfl (by simp) (by decide) (by simp [freshOK, freshL, go_sem]) ?_
  rw [Try.ntmps140]
  simp [go_sem]
  refine CallVC.of (tab_c _ _ _ _) (by decide) ?_
  simp [go_sem]
  refine CallVC.of (Repeat_c 1 B.length (by omega) (by omega)) (by decide) ?_
  simp [go_sem]
  refine loop_inv (5 :: 6 :: List.range' 13 13) (fun i : Nat => [(5, .own 2 (i + 1) (avs (serL A B i))), (6, .own 2 B.length (avs (wts A B.length i))), (13, .int i)]) (fun i => i ≤ n) (fun i => n - i) 0 (by simp) (by simp [go_sem, serL, wts, avs_cons]) (by simp [go_sem]) ?_
  intro i hi
  have w1 := wts_len (s := B.length) hT.len i
  have w2 := wts_N A B.length i
  have cd := dot_c B (wts A B.length i) (by omega) (by omega) hT.b w2
  have ca := applied_c A B (wts A B.length i) (by rw [w1]; exact hT.a) (by omega) (by rw [hT.len]; omega) w2
  rw [w1] at cd ca
  simp [go_sem]
  refine ⟨fun h => ?_, fun h => ?_⟩ <;> simp at h
  · simp [go_sem]
    refine CallVC.of (cd) (by decide) ?_
    simp [go_sem]
    refine ⟨⟨by omega, by omega⟩, ?_⟩
    refine CallVC.of (ca) (by decide) ?_
    simp [go_sem]
    refine ⟨by omega, i + 1, by omega, by omega, Off_reset _ _ _ (by simp), ?_, ?_, by omega⟩
    · simp [serL_succ, avs_snoc]
    · simp [wts, hT.len]
  · simp [go_sem]
    have e : i = n := by omega
    subst e; simp
theorem l19Weights_c (A : List (List Int)) (B : List Int) (n : Nat) (hT : Tab A B) (hn : n ≤ 15) :
    Con Try.prog 141 [.agg [.sl A.length (mat A), .sl B.length (avs B)], .int n] (.own 2 (n + 1) (avs (serL A B n))) := by
  have hp := hT.pos
  have hl := hT.le
  refine con_of_vc Try.mixed ⟨7, [], [], []⟩ Try.func141 (by decide) rfl (by simp) (by decide) (by simp [freshOK, freshL, go_sem]) ?_
  rw [Try.ntmps141]
  simp [go_sem]
  refine CallVC.of (l09Ones_c _ (by omega)) (by decide) ?_
  simp [go_sem]
  refine loop_inv (5 :: 6 :: List.range' 12 15) (fun i : Nat => [(5, .own 2 (i + 1) (avs (serL A B i))), (6, .own 2 B.length (avs (wts A B.length i)))]) (fun i => i ≤ n) (fun i => n - i) 0 (by simp) (by simp [go_sem, serL, wts, avs_cons]) (by simp [go_sem]) ?_
  intro i hi
  have w1 := wts_len (s := B.length) hT.len i
  have w2 := wts_N A B.length i
  have cd := l01Dot_c B (wts A B.length i) (by omega) (by omega) hT.b w2
  have ca := l09Times_c A (wts A B.length i) (by rw [w1]; exact hT.a) (by omega) (by rw [hT.len]; omega) w2
  rw [w1] at cd ca
  simp [go_sem]
  refine ⟨fun h => ?_, fun h => ?_⟩ <;> simp at h
  · simp [go_sem]
    refine CallVC.of (cd) (by decide) ?_
    simp [go_sem]
    refine ⟨⟨by omega, by omega⟩, ?_⟩
    refine CallVC.of (ca) (by decide) ?_
    simp [go_sem]
    refine ⟨i + 1, by omega, by omega, Off_reset _ _ _ (by simp), ?_, ?_⟩
    · simp [serL_succ, avs_snoc]
    · simp [wts, hT.len]
  · simp [go_sem]
    have e : i = n := by omega
    subst e; simp
/-- What the function over tableaus answers: the row, and the code. -/
def stabX (A : List (List Int)) (B : List Int) (n : Int) : List Int := if tabB A B = true ∧ 0 ≤ n ∧ n ≤ 15 then serL A B n.toNat else []
def stabE (A : List (List Int)) (B : List Int) (n : Int) : Int := if tabB A B = true then if 0 ≤ n ∧ n ≤ 15 then 0 else 2 else 1
def stabR (A : List (List Int)) (B : List Int) (n : Int) : AV := .tup [.own 2 (stabX A B n).length (avs (stabX A B n)), .int (stabE A B n)]
theorem StabilitySeries_c (A : List (List Int)) (B : List Int) (n : Int) (hA : A.length ≤ 9223372036854775807) (hB : B.length ≤ 9223372036854775807) (hr : ∀ r ∈ A, r.length ≤ 9223372036854775807) :
    Con Try.prog 54 [.agg [.sl A.length (mat A), .sl B.length (avs B)], .int n] (stabR A B n) := by
  have cT := IsTableau_c A B hA hB hr
  have cR := inRange_c n 0 15
  unfold stabR stabX stabE
  cases hT : tabB A B with
  | false =>
    rw [hT] at cT
    refine Con.n1 _ ?_
    refine con_of_vc Try.mixed ⟨6, [], [], []⟩ Try.func54 (by decide) rfl (by simp) (by decide) (by simp [freshOK, freshL, go_sem]) ?_
    rw [Try.ntmps54]
    simp [go_sem]
    refine CallVC.of (cT) (by decide) ?_
    simp [go_sem]
  | true =>
    rw [hT] at cT
    by_cases hn : 0 ≤ n ∧ n ≤ 15
    · have e : (decide (0 ≤ n) && decide (n ≤ 15)) = true := by simpa using hn
      rw [e] at cR
      simp only [hn, and_self, if_true, serL_len]
      obtain ⟨k, rfl⟩ : ∃ k : Nat, n = k := ⟨n.toNat, by omega⟩
      refine con_of_vc Try.mixed ⟨6, [], [], []⟩ Try.func54 (by decide) rfl (by simp) (by decide) (by simp [freshOK, freshL, go_sem]) ?_
      rw [Try.ntmps54]
      simp [go_sem]
      refine CallVC.of (cT) (by decide) ?_
      simp [go_sem]
      refine CallVC.of (cR) (by decide) ?_
      simp [go_sem]
      refine CallVC.of (stabilitySeries_c A B k (tabB_iff.1 hT) (by omega)) (by decide) ?_
      simp [go_sem]
    · have e : (decide (0 ≤ n) && decide (n ≤ 15)) = false := by simpa using hn
      rw [e] at cR
      simp only [hn, and_false, if_false, if_true]
      refine Con.n1 _ ?_
      refine con_of_vc Try.mixed ⟨6, [], [], []⟩ Try.func54 (by decide) rfl (by simp) (by decide) (by simp [freshOK, freshL, go_sem]) ?_
      rw [Try.ntmps54]
      simp [go_sem]
      refine CallVC.of (cT) (by decide) ?_
      simp [go_sem]
      refine CallVC.of (cR) (by decide) ?_
      simp [go_sem]
theorem specStabilitySeries_c (A : List (List Int)) (B : List Int) (n : Int) (hA : A.length ≤ 9223372036854775807) (hB : B.length ≤ 9223372036854775807) (hr : ∀ r ∈ A, r.length ≤ 9223372036854775807) :
    Con Try.prog 55 [.agg [.sl A.length (mat A), .sl B.length (avs B)], .int n] (stabR A B n) := by
  have cT := l09Is_c A B hA hB hr
  have cR := l01In_c n 0 15
  unfold stabR stabX stabE
  cases hT : tabB A B with
  | false =>
    rw [hT] at cT
    refine Con.n1 _ ?_
    refine con_of_vc Try.mixed ⟨6, [], [], []⟩ Try.func55 (by decide) rfl (by simp) (by decide) (by simp [freshOK, freshL, go_sem]) ?_
    rw [Try.ntmps55]
    simp [go_sem]
    refine CallVC.of (cT) (by decide) ?_
    simp [go_sem]
  | true =>
    rw [hT] at cT
    by_cases hn : 0 ≤ n ∧ n ≤ 15
    · have e : (decide (0 ≤ n) && decide (n ≤ 15)) = true := by simpa using hn
      rw [e] at cR
      simp only [hn, and_self, if_true, serL_len]
      obtain ⟨k, rfl⟩ : ∃ k : Nat, n = k := ⟨n.toNat, by omega⟩
      refine con_of_vc Try.mixed ⟨6, [], [], []⟩ Try.func55 (by decide) rfl (by simp) (by decide) (by simp [freshOK, freshL, go_sem]) ?_
      rw [Try.ntmps55]
      simp [go_sem]
      refine CallVC.of (cT) (by decide) ?_
      simp [go_sem]
      refine CallVC.of (cR) (by decide) ?_
      simp [go_sem]
      refine CallVC.of (l19Weights_c A B k (tabB_iff.1 hT) (by omega)) (by decide) ?_
      simp [go_sem]
    · have e : (decide (0 ≤ n) && decide (n ≤ 15)) = false := by simpa using hn
      rw [e] at cR
      simp only [hn, and_false, if_false, if_true]
      refine Con.n1 _ ?_
      refine con_of_vc Try.mixed ⟨6, [], [], []⟩ Try.func55 (by decide) rfl (by simp) (by decide) (by simp [freshOK, freshL, go_sem]) ?_
      rw [Try.ntmps55]
      simp [go_sem]
      refine CallVC.of (cT) (by decide) ?_
      simp [go_sem]
      refine CallVC.of (cR) (by decide) ?_
      simp [go_sem]
end Go.Proofs.Ytoamidolomldnaa

/- Contracts: sums, multiples, products of series; the exponential series. -/
namespace Go.Proofs.Ytoamidolomldnaa
open Go.Abs
set_option linter.unusedVariables false
set_option linter.unusedSimpArgs false
set_option maxHeartbeats 1000000
/-- The first k values. -/
def tb (f : Nat → Int) (k : Nat) : List Int := (List.range k).map f
@[simp] theorem tb_len (f : Nat → Int) (k : Nat) : (tb f k).length = k := by simp [tb]
@[simp] theorem tb_zero (f : Nat → Int) : tb f 0 = [] := rfl
theorem tb_succ (f : Nat → Int) (k : Nat) : tb f (k + 1) = tb f k ++ [f k] := by simp [tb, List.range_succ]
theorem tb_get (f : Nat → Int) {k i : Nat} (h : i < k) : (tb f k)[i]?.getD 0 = f i := by simp [tb, h]
theorem tb_N {f : Nat → Int} {k : Nat} (h : ∀ i, i < k → isN (f i)) : Ns (tb f k) := by
  intro x hx
  simp [tb] at hx
  obtain ⟨i, hi, rfl⟩ := hx
  exact h i hi
theorem avs_at {xs : List Int} {k : Nat} (h : k < xs.length) : (avs xs)[k]? = some (AV.val (.int .i64 (xs[k]?.getD 0))) := by simp [avs, h]
theorem l02Times_c (a : List Int) (k : Int) (ha : Ns a) (hk : isN k) (hl : a.length ≤ 1048576) :
    Con Try.prog 87 [.sl a.length (avs a), .int k] (.own 2 a.length (avs (tb (fun i => a[i]?.getD 0 * k % 10007) a.length))) := by
  refine con_of_vc Try.mixed ⟨7, [], [], []⟩ Try.func87 (by decide) rfl (by simp) (by decide) (by simp [freshOK, freshL, go_sem]) ?_
  rw [Try.ntmps87]
  simp [go_sem]
  refine loop_inv (5 :: 6 :: List.range' 8 15) (fun i : Nat => [(5, .own 2 i (avs (tb (fun i => a[i]?.getD 0 * k % 10007) i))), (6, .int i)]) (fun i => i ≤ a.length) (fun i => a.length - i) 0 (by simp) (by simp [go_sem]) (by simp [go_sem]) ?_
  intro i hi
  simp [go_sem]
  refine ⟨fun h => ?_, fun h => ?_⟩ <;> simp at h
  · simp [go_sem, avs_drop h]
    refine ⟨⟨h, by rintro rfl; simp at h⟩, ?_⟩
    refine CallVC.of (l01Mul_c _ _ (mul_fits (ha.get i) hk)) (by decide) ?_
    simp [go_sem]
    refine ⟨⟨by omega, by omega⟩, by omega, i + 1, by omega, by omega, Off_reset _ _ _ (by simp), ?_, by omega⟩
    simp [tb_succ, avs_snoc]
  · have e : i = a.length := by omega
    subst e
    simp [go_sem]
theorem l02Add_c (a b : List Int) (ha : Ns a) (hb : Ns b) (hl : a.length ≤ 1048576) (hab : a.length ≤ b.length) :
    Con Try.prog 169 [.sl a.length (avs a), .sl b.length (avs b)] (.own 2 a.length (avs (tb (fun i => (a[i]?.getD 0 + b[i]?.getD 0) % 10007) a.length))) := by
  refine con_of_vc Try.mixed ⟨7, [], [], []⟩ Try.func169 (by decide) rfl (by simp) (by decide) (by simp [freshOK, freshL, go_sem]) ?_
  rw [Try.ntmps169]
  simp [go_sem]
  refine loop_inv (5 :: 6 :: List.range' 8 18) (fun i : Nat => [(5, .own 2 i (avs (tb (fun i => (a[i]?.getD 0 + b[i]?.getD 0) % 10007) i))), (6, .int i)]) (fun i => i ≤ a.length) (fun i => a.length - i) 0 (by simp) (by simp [go_sem]) (by simp [go_sem]) ?_
  intro i hi
  simp [go_sem]
  refine ⟨fun h => ?_, fun h => ?_⟩ <;> simp at h
  · have h2 : i < b.length := by omega
    simp [go_sem, avs_drop h, avs_drop h2]
    refine ⟨by kernel_rfl, ⟨h, by rintro rfl; simp at h⟩, ⟨h2, by rintro rfl; simp at h2⟩, ?_⟩
    refine CallD.of (l01Add_c _ _ (add_fits (ha.get i) (hb.get i))) (by simp [roots, rootsL]) (by decide) ?_
    simp [go_sem]
    refine ⟨by omega, ?_⟩
    refine ⟨by kernel_rfl, ?_⟩
    simp [go_sem]
    refine ⟨by omega, i + 1, by omega, by omega, Off_reset _ _ _ (by simp), ?_, by omega⟩
    simp [tb_succ, avs_snoc]
  · have e : i = a.length := by omega
    subst e
    simp [go_sem]
/-- The first m terms of the n-th coefficient of a product. -/
def cv (a b : List Int) (n : Nat) : Nat → Int
  | 0 => 0
  | m + 1 => cv a b n m + a[m]?.getD 0 * b[n - m]?.getD 0
def mulS (a b : List Int) : List Int := tb (fun n => cv a b n (n + 1) % 10007) a.length
@[simp] theorem mulS_len (a b : List Int) : (mulS a b).length = a.length := by simp [mulS]
theorem mulS_N (a b : List Int) : Ns (mulS a b) := tb_N fun i _ => isN_mod _
theorem l02Mul_c (a b : List Int) (ha : Ns a) (hb : Ns b) (hl : a.length ≤ 1048576) (hab : a.length ≤ b.length) :
    Con Try.prog 199 [.sl a.length (avs a), .sl b.length (avs b)] (.own 2 a.length (avs (mulS a b))) := by
  refine con_of_vc Try.mixed ⟨9, [], [], []⟩ Try.func199 (by decide) rfl (by simp) (by decide) (by simp [freshOK, freshL, go_sem]) ?_
  rw [Try.ntmps199]
  simp [go_sem]
  refine loop_inv (5 :: 6 :: 7 :: 8 :: List.range' 10 28) (fun i : Nat => [(5, .own 2 i (avs (tb (fun n => cv a b n (n + 1) % 10007) i))), (6, .int i)]) (fun i => i ≤ a.length) (fun i => a.length - i) 0 (by simp) (by simp [go_sem]) (by simp [go_sem]) ?_
  intro i hi
  simp [go_sem]
  refine ⟨fun h => ?_, fun h => ?_⟩ <;> simp at h
  · simp [go_sem]
    refine loop_inv (7 :: 8 :: List.range' 16 18) (fun k : Nat => [(7, .int (cv a b i k % 10007)), (8, .int k)]) (fun k => k ≤ i + 1) (fun k => i + 1 - k) 0 (by simp) (by simp [go_sem, cv]) (by simp [go_sem]) ?_
    intro k hk
    simp [go_sem]
    refine ⟨fun h => ?_, fun h => ?_⟩ <;> simp at h
    · have k1 : k < a.length := by omega
      have k2 : i - k < b.length := by omega
      have k3 : ((i : Int) - k) = ((i - k : Nat) : Int) := by omega
      simp [go_sem, avs_drop k1, avs_drop k2, k3]
      refine ⟨by kernel_rfl, ⟨k1, by rintro rfl; simp at k1⟩, by omega, ⟨k2, by rintro rfl; simp at k2⟩, ?_⟩
      refine CallD.of (l01Mul_c _ _ (mul_fits (ha.get k) (hb.get (i - k)))) (by simp [roots, rootsL]) (by decide) ?_
      simp [go_sem]
      refine CallD.of (l01Add_c _ _ (add_fits (isN_mod _) (isN_mod _))) (by simp [roots, rootsL]) (by decide) ?_
      simp [go_sem]
      refine ⟨by kernel_rfl, ?_⟩
      simp [go_sem]
      refine ⟨by omega, k + 1, by omega, by omega, Off_reset _ _ _ (by simp), ?_, by omega⟩
      simp [cv]
    · have e : k = i + 1 := by omega
      subst e
      simp [go_sem]
      refine ⟨by omega, by omega, i + 1, by omega, by omega, (Off.reset (by intro x hx; simp at hx ⊢; omega) (by simp) (by simp [go_sem, Off_reset])), ⟨rfl, ?_⟩, by omega⟩
      simp [tb_succ, avs_snoc]
  · have e : i = a.length := by omega
    subst e
    simp [go_sem]
    rfl
theorem l02Unit_c (n j : Nat) (hn : n ≤ 1048576) (hj : j ≤ 1048576) : Con Try.prog 113 [.int n, .int j] (.own 2 n (avs (tb (fun i => if i = j then 1 else 0) n))) := by
  refine con_of_vc Try.mixed ⟨6, [], [], []⟩ Try.func113 (by decide) rfl (by simp) (by decide) (by simp [freshOK, freshL, go_sem]) ?_
  rw [Try.ntmps113]
  simp [go_sem]
  refine ⟨⟨by omega, by omega⟩, ?_⟩
  refine ⟨fun h => ?_, fun h => ?_⟩ <;> simp at h
  · simp [go_sem]
    refine ⟨h, List.ext_getElem (by simp) fun k h1 h2 => ?_⟩
    simp [avs, tb, List.getElem_set]
    by_cases e : j = k
    · simp [e]
    · have e2 : ¬ k = j := fun h => e h.symm
      simp [e, e2]
  · simp [go_sem]
    refine List.ext_getElem (by simp) fun k h1 h2 => ?_
    simp at h1
    have e2 : ¬ k = j := by omega
    simp [avs, tb, e2]
/-- The sum over k from 1 to m of k times b(k) o(n - k). -/
def es (b o : List Int) (n : Nat) : Nat → Int
  | 0 => 0
  | m + 1 => es b o n m + (m + 1) * (b[m + 1]?.getD 0 * o[n - (m + 1)]?.getD 0 % 10007)
def expTo (b : List Int) : Nat → List Int
  | 0 => [1]
  | n + 1 => expTo b n ++ [es b (expTo b n) (n + 1) (n + 1) % 10007 * pw (n + 1) 10005 % 10007]
@[simp] theorem expTo_len (b : List Int) : ∀ n, (expTo b n).length = n + 1
  | 0 => rfl
  | n + 1 => by simp [expTo, expTo_len b n]
theorem expTo_N (b : List Int) : ∀ n, Ns (expTo b n)
  | 0 => by intro x hx; simp [expTo] at hx; subst hx; exact ⟨by omega, by omega⟩
  | n + 1 => (expTo_N b n).snoc (isN_mod _)
theorem es_step {r : Int} (h : isN r) {k : Nat} (hk : k < 1000) : 0 ≤ ((k : Int) + 1) * r ∧ ((k : Int) + 1) * r ≤ 10006000 :=
  ⟨Int.mul_nonneg (by omega) h.1, Int.le_trans (Int.mul_le_mul (by omega : (k : Int) + 1 ≤ 1000) (by have := h.2; omega : r ≤ 10006) h.1 (by omega)) (by omega)⟩
theorem es_bound (b o : List Int) (n : Nat) : ∀ m, m ≤ 1000 → 0 ≤ es b o n m ∧ es b o n m ≤ m * 10006000
  | 0, _ => by simp [es]
  | m + 1, h => by
    have := es_bound b o n m (by omega)
    have h2 := isN_mod (b[m + 1]?.getD 0 * o[n - (m + 1)]?.getD 0)
    have h3 : 0 ≤ ((m : Int) + 1) * (b[m + 1]?.getD 0 * o[n - (m + 1)]?.getD 0 % 10007) := Int.mul_nonneg (by omega) h2.1
    have h4 : ((m : Int) + 1) * (b[m + 1]?.getD 0 * o[n - (m + 1)]?.getD 0 % 10007) ≤ 1000 * 10006 := Int.mul_le_mul (by omega) (by have := h2.2; omega) h2.1 (by omega)
    simp only [es]; omega
theorem expSeries_c (b : List Int) (hb : Ns b) (h1 : 1 ≤ b.length) (hl : b.length ≤ 1000) : Con Try.prog 128 [.sl b.length (avs b)] (.own 2 b.length (avs (expTo b (b.length - 1)))) := by
  refine con_of_vc Try.mixed ⟨7, [], [], []⟩ Try.func128 (by decide) rfl (by simp) (by decide) (by simp [freshOK, freshL, go_sem]) ?_
  rw [Try.ntmps128]
  simp [go_sem]
  refine ⟨⟨by omega, by omega⟩, by omega, ?_⟩
  have i0 : (List.replicate b.length (AV.val (Value.int IntKind.i64 0))).set 0 (AV.val (Value.int IntKind.i64 1)) = avs (expTo b 0 ++ List.replicate (b.length - 1) 0) := by
    obtain ⟨m, hm⟩ : ∃ m, b.length = m + 1 := ⟨b.length - 1, by omega⟩
    rw [hm]; simp [List.replicate_succ, expTo, avs]
  refine loop_inv (3 :: 4 :: 5 :: 6 :: List.range' 12 36) (fun i : Nat => [(3, .own 2 b.length (avs (expTo b i ++ List.replicate (b.length - 1 - i) 0))), (4, .int (i + 1 : Nat))]) (fun i => i + 1 ≤ b.length) (fun i => b.length - i) 0 (by simp; omega) (by simp [go_sem]; exact i0) (by simp [go_sem]) ?_
  intro i hi
  simp [go_sem]
  refine ⟨fun h => ?_, fun h => ?_⟩ <;> simp at h
  · simp [go_sem]
    refine loop_inv (5 :: 6 :: List.range' 18 21) (fun k : Nat => [(5, .int (es b (expTo b i) (i + 1) k)), (6, .int (k + 1 : Nat))]) (fun k => k ≤ i + 1) (fun k => i + 1 - k) 0 (by simp) (by simp [go_sem, es]) (by simp [go_sem]) ?_
    intro k hk
    have bd := es_bound b (expTo b i) (i + 1) k (by omega)
    simp [go_sem]
    refine ⟨fun h => ?_, fun h => ?_⟩ <;> simp at h
    · have k1 : k + 1 < b.length := by omega
      have k2 : i - k < (expTo b i ++ List.replicate (b.length - 1 - i) 0).length := by simp; omega
      have k3 : ((i : Int) + 1 - (k + 1)) = ((i - k : Nat) : Int) := by omega
      have k4 : (expTo b i ++ List.replicate (b.length - 1 - i) 0)[i - k]?.getD 0 = (expTo b i)[i - k]?.getD 0 := by rw [List.getElem?_append_left (by simp; omega)]
      simp [go_sem, avs_drop k1, avs_at k2, k3, k4]
      refine ⟨by kernel_rfl, ⟨by omega, by omega, by rintro rfl; simp at h1⟩, by omega, by omega, mul_fits (hb.get _) ((expTo_N b i).get _), ?_⟩
      have m1 := isN_mod (b[k + 1]?.getD 0 * (expTo b i)[i - k]?.getD 0)
      refine CallD.of (num_c _ (mul_fits (hb.get _) ((expTo_N b i).get _)).1 (mul_fits (hb.get _) ((expTo_N b i).get _)).2) (by simp [roots, rootsL]) (by decide) ?_
      simp [go_sem]
      have m2 := es_step m1 (by omega : k < 1000)
      refine ⟨⟨by omega, by omega⟩, by omega, ?_⟩
      refine ⟨by kernel_rfl, ?_⟩
      simp [go_sem]
      refine ⟨by omega, k + 1, by omega, by omega, Off_reset _ _ _ (by simp), by simp [es], by omega⟩
    · have e : k = i + 1 := by omega
      subst e
      simp [go_sem]
      refine CallVC.of (num_c _ (by omega) (by omega)) (by decide) ?_
      simp [go_sem]
      refine CallVC.of (inv_c _ ⟨by omega, by omega⟩) (by decide) ?_
      simp [go_sem]
      have m1 : fits (es b (expTo b i) (i + 1) (i + 1) % 10007 * pw ((i : Int) + 1) 10005) := mul_fits (isN_mod _) (isN_mod _)
      refine ⟨m1, ?_⟩
      refine CallVC.of (num_c _ m1.1 m1.2) (by decide) ?_
      simp [go_sem]
      refine ⟨⟨by omega, by omega⟩, by omega, by omega, i + 1, by omega, by omega, (Off.reset (by intro x hx; simp at hx ⊢; omega) (by simp) (by simp [go_sem, Off_reset])), ?_, by omega⟩
      obtain ⟨m, hm⟩ : ∃ m, b.length - 1 - i = m + 1 := ⟨b.length - 1 - i - 1, by omega⟩
      have hm2 : b.length - 1 - (i + 1) = m := by omega
      rw [avs_set, hm, hm2, List.replicate_succ, List.set_append_right _ _ (by simp)]
      simp [expTo]
  · have e : i = b.length - 1 := by omega
    subst e
    simp [go_sem]
/-- The n-th power of b by the factorial of n, and the sum of the first ones. -/
def xpow (b : List Int) : Nat → List Int
  | 0 => tb (fun i => if i = 0 then 1 else 0) b.length
  | n + 1 => tb (fun i => (mulS (xpow b n) b)[i]?.getD 0 * pw ((n + 1 : Nat) : Int) 10005 % 10007) b.length
def xsum (b : List Int) : Nat → List Int
  | 0 => List.replicate b.length 0
  | n + 1 => tb (fun i => ((xsum b n)[i]?.getD 0 + (xpow b n)[i]?.getD 0) % 10007) b.length
@[simp] theorem xpow_len (b : List Int) : ∀ n, (xpow b n).length = b.length
  | 0 => by simp [xpow]
  | n + 1 => by simp [xpow]
@[simp] theorem xsum_len (b : List Int) : ∀ n, (xsum b n).length = b.length
  | 0 => by simp [xsum]
  | n + 1 => by simp [xsum]
theorem xpow_N (b : List Int) : ∀ n, Ns (xpow b n)
  | 0 => tb_N fun i _ => by split <;> exact ⟨by omega, by omega⟩
  | n + 1 => tb_N fun i _ => isN_mod _
theorem xsum_N (b : List Int) : ∀ n, Ns (xsum b n)
  | 0 => by intro x hx; simp [xsum, List.mem_replicate] at hx; rw [hx.2]; exact ⟨by omega, by omega⟩
  | n + 1 => tb_N fun i _ => isN_mod _
theorem l02Exp_c (b : List Int) (hb : Ns b) (hl : b.length ≤ 1000) : Con Try.prog 112 [.sl b.length (avs b)] (.own 2 b.length (avs (xsum b b.length))) := by
  refine con_of_vc Try.mixed ⟨6, [], [], []⟩ Try.func112 (by decide) rfl (by simp) (by decide) (by simp [freshOK, freshL, go_sem]) ?_
  rw [Try.ntmps112]
  simp [go_sem]
  refine ⟨by kernel_rfl, ?_⟩
  refine CallD.of (l02Unit_c b.length 0 (by omega) (by omega)) (by simp [roots, rootsL]) (by decide) ?_
  simp [go_sem]
  refine ⟨⟨by omega, by omega⟩, ?_⟩
  refine ⟨by kernel_rfl, ?_⟩
  simp [go_sem]
  refine loop_inv (3 :: 4 :: 5 :: List.range' 12 15) (fun i : Nat => [(3, .own 2 b.length (avs (xpow b i))), (4, .own 2 b.length (avs (xsum b i))), (5, .int (i + 1 : Nat))]) (fun i => i ≤ b.length) (fun i => b.length - i) 0 (by simp) (by simp [go_sem, xpow, xsum, avs_repl]) (by simp [go_sem]) ?_
  intro i hi
  have ca := l02Add_c (xsum b i) (xpow b i) (xsum_N b i) (xpow_N b i) (by simp; omega) (by simp)
  have cm := l02Mul_c (xpow b i) b (xpow_N b i) hb (by simp; omega) (by simp)
  have ct := l02Times_c (mulS (xpow b i) b) (pw ((i + 1 : Nat) : Int) 10005) (mulS_N _ _) (isN_mod _) (by simp; omega)
  simp only [xsum_len, xpow_len, mulS_len] at ca cm ct
  simp [go_sem]
  refine ⟨fun h => ?_, fun h => ?_⟩ <;> simp at h
  · simp [go_sem]
    refine CallVC.of (ca) (by decide) ?_
    simp [go_sem]
    refine CallVC.of (cm) (by decide) ?_
    simp [go_sem]
    refine CallVC.of (l01Inv_c _ ⟨by omega, by omega⟩) (by decide) ?_
    simp [go_sem]
    refine CallVC.of (ct) (by decide) ?_
    simp [go_sem]
    refine ⟨⟨by omega, by omega⟩, i + 1, by omega, by omega, Off_reset _ _ _ (by simp), ?_, ?_, by omega⟩
    · simp [xpow]
    · simp [xsum]
  · have e : i = b.length := by omega
    subst e
    simp [go_sem]
def uni : List Int := tb (fun i => if i = 1 then 1 else 0) 16
@[simp] theorem uni_len : uni.length = 16 := rfl
theorem uni_N : Ns uni := tb_N fun i _ => by split <;> exact ⟨by omega, by omega⟩
def expU : List Int := expTo uni 15
@[simp] theorem expU_len : expU.length = 16 := rfl
theorem ExponentialTo_c : Con Try.prog 41 [.int 15] (.tup [.own 2 16 (avs expU), .int 0]) := by
  have ce : Con Try.prog 128 [.sl 16 (avs uni)] (.own 2 16 (avs expU)) := expSeries_c uni uni_N (by decide) (by decide)
  refine con_of_vc Try.mixed ⟨5, [], [], []⟩ Try.func41 (by decide) rfl (by simp) (by decide) (by simp [freshOK, freshL, go_sem]) ?_
  rw [Try.ntmps41]
  simp [go_sem]
  refine CallVC.of (inRange_c 15 0 15) (by decide) ?_
  simp [go_sem]
  refine CallVC.of (ce) (by decide) ?_
  simp [go_sem]
theorem expU_eq : xsum uni 16 = expU := by decide +kernel
theorem specExpU_c : Con Try.prog 112 [.sl 16 (avs uni)] (.own 2 16 (avs expU)) := by
  rw [← expU_eq]
  exact l02Exp_c uni uni_N (by decide)
theorem specUni_c : Con Try.prog 113 [.int 16, .int 1] (.own 2 16 (avs uni)) := l02Unit_c 16 1 (by omega) (by omega)
end Go.Proofs.Ytoamidolomldnaa

/- Contracts: the sources of draws. -/
namespace Go.Proofs.Ytoamidolomldnaa
open Go.Abs
set_option linter.unusedVariables false
set_option linter.unusedSimpArgs false
set_option maxHeartbeats 1000000
/-- Bytes, as cells. -/
def bys (c : List Int) : List AV := c.map fun x => .val (.int .u8 x)
@[simp] theorem bys_len (c : List Int) : (bys c).length = c.length := by simp [bys]
theorem bys_drop {c : List Int} {k : Nat} (h : k < c.length) : (bys c).drop k = .val (.int .u8 (c[k]?.getD 0)) :: bys (c.drop (k + 1)) := by
  rw [bys, ← List.map_drop, List.drop_eq_getElem_cons h, List.map_cons]; simp [h, bys]
def Byt (c : List Int) : Prop := c.length ≤ 4096 ∧ ∀ x ∈ c, 0 ≤ x ∧ x ≤ 255
theorem Byt.get {c : List Int} (h : Byt c) (k : Nat) : 0 ≤ c[k]?.getD 0 ∧ c[k]?.getD 0 ≤ 255 := by
  rcases Nat.lt_or_ge k c.length with hk | hk
  · simp [hk]; exact h.2 _ (List.getElem_mem hk)
  · simp [hk]
/-- A source: how far its code has been read, its hash. -/
abbrev Src := Nat × Int
def srcA (c : List Int) (σ : Src) : AV := .box 183 [.sl c.length (bys c), .int σ.1, .val (.int .u64 σ.2)]
/-- The state of a source as a whole. -/
theorem srcA_eq (c : List Int) (σ : Src) : srcA c σ = .box 183 [.sl c.length (bys c), .int σ.1, .val (.int .u64 σ.2)] := rfl
def dicA (c : List Int) (σ : Src) : AV := .box 145 [.sl c.length (bys c), .int σ.1, .val (.int .u64 σ.2)]
def nxH (h : Int) : Int := IntKind.u64.wrap (IntKind.u64.wrap (h * 6364136223846793005) + 1442695040888963407)
def nxX (h : Int) : Int := andI IntKind.u64 (shrI IntKind.u64 (nxH h) 33) 16777215
def byV (c : List Int) (k : Nat) : Int := if k < c.length then c[k]?.getD 0 else 0
def nx1 (c : List Int) (σ : Src) (n : Int) : Int := if n < 1 then 0 else (nxX σ.2 + byV c σ.1).tmod n
def nx2 (c : List Int) (σ : Src) (n : Int) : Src := if n < 1 then σ else (if σ.1 < c.length then σ.1 + 1 else σ.1, nxH σ.2)
def SOk (σ : Src) : Prop := σ.1 ≤ 4096
theorem nx2_ok {c : List Int} (hc : Byt c) {σ : Src} (h : SOk σ) (n : Int) : SOk (nx2 c σ n) := by
  unfold SOk nx2 at *
  have := hc.1
  split
  · exact h
  · simp only; split <;> omega
theorem nxX_b (h : Int) : 0 ≤ nxX h ∧ nxX h ≤ 16777215 := by
  unfold nxX andI
  generalize shrI IntKind.u64 (nxH h) 33 = y
  have h1 : (BitVec.ofInt IntKind.u64.bits y &&& BitVec.ofInt IntKind.u64.bits 16777215).toNat ≤ 16777215 := by
    rw [BitVec.toNat_and]
    exact Nat.le_trans Nat.and_le_right (by decide)
  generalize (BitVec.ofInt IntKind.u64.bits y &&& BitVec.ofInt IntKind.u64.bits 16777215).toNat = m at *
  simp [IntKind.wrap, IntKind.signed, IntKind.bits]
  omega
theorem byV_b {c : List Int} (hc : Byt c) (k : Nat) : 0 ≤ byV c k ∧ byV c k ≤ 255 := by
  unfold byV
  split
  · exact hc.get k
  · omega
theorem nx1_b {c : List Int} (hc : Byt c) (σ : Src) {n : Int} (hn : 1 ≤ n) : 0 ≤ nx1 c σ n ∧ nx1 c σ n < n := by
  have h1 := nxX_b σ.2
  have h2 := byV_b hc σ.1
  unfold nx1
  rw [if_neg (by omega), Int.tmod_eq_emod_of_nonneg (by omega)]
  exact ⟨Int.emod_nonneg _ (by omega), Int.emod_lt_of_pos _ (by omega)⟩
set_option maxRecDepth 100000 in
theorem l01Next_c (c : List Int) (σ : Src) (n : Int) (hc : Byt c) (hs : SOk σ) : GCon Try.prog 110 [srcA c σ, .int n] (.int (nx1 c σ n)) [srcA c (nx2 c σ n), .any] := by
  have hx := nxX_b σ.2
  have hy := byV_b hc σ.1
  have hcl := hc.1
  unfold SOk at hs
  unfold nx1 nx2
  by_cases h0 : n < 1
  · rw [if_pos h0, if_pos h0]
    unfold srcA
    refine gcon_of_vc Try.mixed ⟨6, [], [], []⟩ [4] [0] Try.func110 (by decide) rfl rfl (by simp) (by simp) (by decide) ?_
    rw [Try.ntmps110]
    simp [go_sem]
    simp [go_sem, h0]
  · rw [if_neg h0, if_neg h0]
    unfold srcA
    have e1 : nxH σ.2 = IntKind.u64.wrap (IntKind.u64.wrap (σ.2 * 6364136223846793005) + 1442695040888963407) := rfl
    have e2 : nxX σ.2 = andI IntKind.u64 (shrI IntKind.u64 (nxH σ.2) 33) 16777215 := rfl
    generalize nxX σ.2 = x at *
    generalize nxH σ.2 = h' at *
    have n0 : ¬ n = 0 := by omega
    by_cases hk : σ.1 < c.length
    · have hb : byV c σ.1 = c[σ.1]?.getD 0 := by unfold byV; rw [if_pos hk]
      have hne : ¬ c = [] := by rintro rfl; simp at hk
      rw [if_pos hk]
      rw [hb] at hy ⊢
      refine gcon_of_vc Try.mixed ⟨6, [], [], []⟩ [4] [0] Try.func110 (by decide) rfl rfl (by simp) (by simp) (by decide) ?_
      rw [Try.ntmps110]
      simp [go_sem]
      simp [go_sem, h0, ← e1, ← e2]
      refine ⟨⟨by omega, by omega⟩, by kernel_rfl, ?_⟩
      refine ⟨by kernel_rfl, ?_⟩
      simp [go_sem]
      have hD := bys_drop hk
      generalize c[σ.1]?.getD 0 = b at *
      simp [go_sem, hk, hD]
      refine ⟨by kernel_rfl, by intro e; exact hne (by simpa [bys] using e), ⟨by omega, by omega⟩, ⟨by omega, by omega⟩, ?_⟩
      refine ⟨by kernel_rfl, ?_⟩
      simp [go_sem]
      exact ⟨⟨by omega, by omega⟩, n0⟩
    · have hb : byV c σ.1 = 0 := by unfold byV; rw [if_neg hk]
      rw [if_neg hk]
      rw [hb] at hy ⊢
      refine gcon_of_vc Try.mixed ⟨6, [], [], []⟩ [4] [0] Try.func110 (by decide) rfl rfl (by simp) (by simp) (by decide) ?_
      rw [Try.ntmps110]
      simp [go_sem]
      simp [go_sem, h0, ← e1, ← e2]
      refine ⟨⟨by omega, by omega⟩, by kernel_rfl, ?_⟩
      refine ⟨by kernel_rfl, ?_⟩
      simp [go_sem]
      simp [go_sem, hk]
      exact n0
set_option maxRecDepth 100000 in
theorem below_c (c : List Int) (σ : Src) (n : Int) (hc : Byt c) (hs : SOk σ) : GCon Try.prog 138 [dicA c σ, .int n] (.int (nx1 c σ n)) [dicA c (nx2 c σ n), .any] := by
  have hx := nxX_b σ.2
  have hy := byV_b hc σ.1
  have hcl := hc.1
  unfold SOk at hs
  unfold nx1 nx2
  by_cases h0 : n < 1
  · rw [if_pos h0, if_pos h0]
    unfold dicA
    refine gcon_of_vc Try.mixed ⟨6, [], [], []⟩ [4] [0] Try.func138 (by decide) rfl rfl (by simp) (by simp) (by decide) ?_
    rw [Try.ntmps138]
    simp [go_sem]
    simp [go_sem, h0]
  · rw [if_neg h0, if_neg h0]
    unfold dicA
    have e1 : nxH σ.2 = IntKind.u64.wrap (IntKind.u64.wrap (σ.2 * 6364136223846793005) + 1442695040888963407) := rfl
    have e2 : nxX σ.2 = andI IntKind.u64 (shrI IntKind.u64 (nxH σ.2) 33) 16777215 := rfl
    generalize nxX σ.2 = x at *
    generalize nxH σ.2 = h' at *
    have n0 : ¬ n = 0 := by omega
    by_cases hk : σ.1 < c.length
    · have hb : byV c σ.1 = c[σ.1]?.getD 0 := by unfold byV; rw [if_pos hk]
      have hne : ¬ c = [] := by rintro rfl; simp at hk
      rw [if_pos hk]
      rw [hb] at hy ⊢
      refine gcon_of_vc Try.mixed ⟨6, [], [], []⟩ [4] [0] Try.func138 (by decide) rfl rfl (by simp) (by simp) (by decide) ?_
      rw [Try.ntmps138]
      simp [go_sem]
      simp [go_sem, h0, ← e1, ← e2]
      refine ⟨⟨by omega, by omega⟩, by kernel_rfl, ?_⟩
      refine ⟨by kernel_rfl, ?_⟩
      simp [go_sem]
      have hD := bys_drop hk
      generalize c[σ.1]?.getD 0 = b at *
      simp [go_sem, hk, hD]
      refine ⟨by kernel_rfl, by intro e; exact hne (by simpa [bys] using e), ⟨by omega, by omega⟩, ⟨by omega, by omega⟩, ?_⟩
      refine ⟨by kernel_rfl, ?_⟩
      simp [go_sem]
      exact ⟨⟨by omega, by omega⟩, n0⟩
    · have hb : byV c σ.1 = 0 := by unfold byV; rw [if_neg hk]
      rw [if_neg hk]
      rw [hb] at hy ⊢
      refine gcon_of_vc Try.mixed ⟨6, [], [], []⟩ [4] [0] Try.func138 (by decide) rfl rfl (by simp) (by simp) (by decide) ?_
      rw [Try.ntmps138]
      simp [go_sem]
      simp [go_sem, h0, ← e1, ← e2]
      refine ⟨⟨by omega, by omega⟩, by kernel_rfl, ?_⟩
      refine ⟨by kernel_rfl, ?_⟩
      simp [go_sem]
      simp [go_sem, hk]
      exact n0
theorem getI {xs : List Int} {v : Int} (h0 : 0 ≤ v) (h1 : v < xs.length) : ∃ k : Nat, v = k ∧ k < xs.length ∧ v.toNat = k := ⟨v.toNat, by omega, by omega, rfl⟩
def pk (c : List Int) (σ : Src) (xs : List Int) : Int := xs[(nx1 c σ xs.length).toNat]?.getD 0
theorem pk_mem (c : List Int) (hc : Byt c) (σ : Src) {xs : List Int} (hx : 0 < xs.length) : pk c σ xs ∈ xs := by
  have h := nx1_b hc σ (n := xs.length) (by omega)
  unfold pk
  have hk : (nx1 c σ xs.length).toNat < xs.length := by omega
  simp [hk]
set_option maxRecDepth 100000 in
theorem l01Pick_c (c : List Int) (σ : Src) (xs : List Int) (hc : Byt c) (hs : SOk σ) (hx : 0 < xs.length) (hxl : xs.length ≤ 1000) :
    GCon Try.prog 114 [srcA c σ, .own 2 xs.length (avs xs)] (.int (pk c σ xs)) [srcA c (nx2 c σ xs.length), .any] := by
  have cN := l01Next_c c σ xs.length hc hs
  have hb := nx1_b hc σ (n := xs.length) (by omega)
  unfold pk
  obtain ⟨k, hk, hkl, hkt⟩ := getI hb.1 hb.2
  rw [hkt]
  rw [hk] at cN
  unfold srcA at *
  refine gcon_of_vc Try.mixed ⟨5, [], [1000000 + 110], []⟩ [4] [0] Try.func114 (by decide) rfl rfl (by simp) (by simp) (by decide) ?_
  rw [Try.ntmps114]
  simp [go_sem]
  refine ⟨_, _, cN, ?_⟩
  simp [go_sem]
  have hA := avs_at hkl
  simp [go_sem, hA]
  exact hkl
theorem l01Frac_c (p q : Int) (hp : fits p) (hq : fits q) : Con Try.prog 266 [.int p, .int q] (.int (p % 10007 * pw (q % 10007) 10005 % 10007)) := by
  have hf : fits (p % 10007 * pw (q % 10007) 10005) := mul_fits (isN_mod _) (isN_mod _)
  refine con_of_vc Try.mixed ⟨5, [], [], []⟩ Try.func266 (by decide) rfl (by simp) (by decide) (by simp [freshOK, freshL, go_sem]) ?_
  rw [Try.ntmps266]
  simp [go_sem]
  refine CallVC.of (l01Mod_c p hp.1 hp.2) (by decide) ?_
  simp [go_sem]
  refine CallVC.of (l01Mod_c q hq.1 hq.2) (by decide) ?_
  simp [go_sem]
  refine CallVC.of (l01Inv_c _ (isN_mod q)) (by decide) ?_
  simp [go_sem]
  refine CallVC.of (l01Mul_c _ _ hf) (by decide) ?_
  simp [go_sem]
/-- A number that is drawn. -/
def nbV (c : List Int) (σ : Src) : Int × Src :=
  if nx1 c σ 5 = 0 then (nx1 c (nx2 c σ 5) 10007, nx2 c (nx2 c σ 5) 10007)
  else if nx1 c σ 5 = 1 then (pk c (nx2 c σ 5) [0, 1, 0, 1, 10006, 2], nx2 c (nx2 c σ 5) 6)
  else ((nx1 c (nx2 c σ 5) 15 - 7) % 10007 * pw ((1 + nx1 c (nx2 c (nx2 c σ 5) 15) 12) % 10007) 10005 % 10007, nx2 c (nx2 c (nx2 c σ 5) 15) 12)
theorem nbV_ok {c : List Int} (hc : Byt c) {σ : Src} (hs : SOk σ) : isN (nbV c σ).1 ∧ SOk (nbV c σ).2 := by
  have s1 := nx2_ok hc hs 5
  unfold nbV
  split
  · exact ⟨nx1_b hc (nx2 c σ 5) (n := 10007) (by omega), nx2_ok hc s1 _⟩
  · split
    · refine ⟨?_, nx2_ok hc s1 _⟩
      have := pk_mem c hc (nx2 c σ 5) (xs := [0, 1, 0, 1, 10006, 2]) (by simp)
      simp at this
      simp only
      constructor <;> omega
    · exact ⟨isN_mod _, nx2_ok hc (nx2_ok hc s1 _) _⟩
set_option maxRecDepth 100000 in
theorem l01Number_c (c : List Int) (σ : Src) (hc : Byt c) (hs : SOk σ) : GCon Try.prog 246 [srcA c σ] (.int (nbV c σ).1) [srcA c (nbV c σ).2] := by
  have s1 := nx2_ok hc hs 5
  have s2 := nx2_ok hc s1 15
  have c1 := l01Next_c c σ 5 hc hs
  have c2 := l01Next_c c (nx2 c σ 5) 10007 hc s1
  have c3 := l01Pick_c c (nx2 c σ 5) [0, 1, 0, 1, 10006, 2] hc s1 (by simp) (by simp)
  have c4 := l01Next_c c (nx2 c σ 5) 15 hc s1
  have c5 := l01Next_c c (nx2 c (nx2 c σ 5) 15) 12 hc s2
  have b4 := nx1_b hc (nx2 c σ 5) (n := 15) (by omega)
  have b5 := nx1_b hc (nx2 c (nx2 c σ 5) 15) (n := 12) (by omega)
  have c6 := l01Frac_c (nx1 c (nx2 c σ 5) 15 - 7) (1 + nx1 c (nx2 c (nx2 c σ 5) 15) 12) ⟨by omega, by omega⟩ ⟨by omega, by omega⟩
  unfold nbV
  have e3 : (([0, 1, 0, 1, 10006, 2] : List Int).length : Int) = 6 := rfl
  rw [e3] at c3
  generalize pk c (nx2 c σ 5) [0, 1, 0, 1, 10006, 2] = pv at *
  generalize nx1 c (nx2 c (nx2 c σ 5) 15) 12 = v5 at *
  generalize nx2 c (nx2 c (nx2 c σ 5) 15) 12 = t5 at *
  generalize nx1 c (nx2 c σ 5) 15 = v4 at *
  generalize nx2 c (nx2 c σ 5) 15 = t4 at *
  generalize nx2 c (nx2 c σ 5) 6 = t3 at *
  generalize nx1 c (nx2 c σ 5) 10007 = v2 at *
  generalize nx2 c (nx2 c σ 5) 10007 = t2 at *
  generalize nx1 c σ 5 = v1 at *
  generalize nx2 c σ 5 = t1 at *
  unfold srcA at *
  by_cases h0 : v1 = 0
  · rw [if_pos h0]
    refine gcon_of_vc Try.mixed ⟨3, [], [1000000 + 110, 1000000 + 114], []⟩ [2] [0] Try.func246 (by decide) rfl rfl (by simp) (by simp) (by decide) ?_
    rw [Try.ntmps246]
    simp [go_sem]
    refine ⟨_, _, c1, ?_⟩
    simp [go_sem]
    simp [go_sem, h0]
    refine ⟨_, _, c2, ?_⟩
    simp [go_sem]
  · rw [if_neg h0]
    by_cases h1 : v1 = 1
    · rw [if_pos h1]
      refine gcon_of_vc Try.mixed ⟨3, [], [1000000 + 110, 1000000 + 114], []⟩ [2] [0] Try.func246 (by decide) rfl rfl (by simp) (by simp) (by decide) ?_
      rw [Try.ntmps246]
      simp [go_sem]
      refine ⟨_, _, c1, ?_⟩
      simp [go_sem]
      simp [go_sem, h0, h1]
      refine ⟨_, _, c3, ?_⟩
      simp [go_sem]
    · rw [if_neg h1]
      refine gcon_of_vc Try.mixed ⟨3, [], [1000000 + 110, 1000000 + 114], []⟩ [2] [0] Try.func246 (by decide) rfl rfl (by simp) (by simp) (by decide) ?_
      rw [Try.ntmps246]
      simp [go_sem]
      refine ⟨_, _, c1, ?_⟩
      simp [go_sem]
      simp [go_sem, h0, h1]
      refine ⟨_, _, c4, ?_⟩
      simp [go_sem]
      refine ⟨⟨by omega, by omega⟩, ?_⟩
      refine ⟨_, _, c5, ?_⟩
      simp [go_sem]
      refine ⟨⟨by omega, by omega⟩, ?_⟩
      refine CallVC.of (c6) (by decide) ?_
      simp [go_sem]
theorem mod5_c (n : Int) (h0 : -9223372036854775808 ≤ n) (h1 : n ≤ 9223372036854775807) : Con Try.prog 37 [.int n] (.int (n % 10007)) := by
  have e := num_law n
  have b := num_low n
  refine con_of_vc Try.mixed ⟨3, [], [], []⟩ Try.func37 (by decide) rfl (by simp) (by decide) (by simp [freshOK, freshL, go_sem]) ?_
  rw [Try.ntmps37]
  simp [go_sem]
  simp [go_sem, e]
  omega
def n5V (c : List Int) (σ : Src) : Int × Src :=
  if nx1 c σ 2 = 0 then (nx1 c (nx2 c σ 2) 10007, nx2 c (nx2 c σ 2) 10007)
  else ((nx1 c (nx2 c σ 2) 9 - 4) % 10007, nx2 c (nx2 c σ 2) 9)
theorem n5V_ok {c : List Int} (hc : Byt c) {σ : Src} (hs : SOk σ) : isN (n5V c σ).1 ∧ SOk (n5V c σ).2 := by
  have s1 := nx2_ok hc hs 2
  unfold n5V
  split
  · exact ⟨nx1_b hc (nx2 c σ 2) (n := 10007) (by omega), nx2_ok hc s1 _⟩
  · exact ⟨isN_mod _, nx2_ok hc s1 _⟩
set_option maxRecDepth 100000 in
theorem number5_c (c : List Int) (σ : Src) (hc : Byt c) (hs : SOk σ) : GCon Try.prog 48 [dicA c σ] (.int (n5V c σ).1) [dicA c (n5V c σ).2] := by
  have s1 := nx2_ok hc hs 2
  have c1 := below_c c σ 2 hc hs
  have c2 := below_c c (nx2 c σ 2) 10007 hc s1
  have c4 := below_c c (nx2 c σ 2) 9 hc s1
  have b4 := nx1_b hc (nx2 c σ 2) (n := 9) (by omega)
  have c6 := mod5_c (nx1 c (nx2 c σ 2) 9 - 4) (by omega) (by omega)
  unfold n5V
  generalize nx1 c (nx2 c σ 2) 9 = v4 at *
  generalize nx2 c (nx2 c σ 2) 9 = t4 at *
  generalize nx1 c (nx2 c σ 2) 10007 = v2 at *
  generalize nx2 c (nx2 c σ 2) 10007 = t2 at *
  generalize nx1 c σ 2 = v1 at *
  generalize nx2 c σ 2 = t1 at *
  unfold dicA at *
  by_cases h0 : v1 = 0
  · rw [if_pos h0]
    refine gcon_of_vc Try.mixed ⟨3, [], [1000000 + 138], []⟩ [2] [0] Try.func48 (by decide) rfl rfl (by simp) (by simp) (by decide) ?_
    rw [Try.ntmps48]
    simp [go_sem]
    refine ⟨_, _, c1, ?_⟩
    simp [go_sem]
    simp [go_sem, h0]
    refine ⟨_, _, c2, ?_⟩
    simp [go_sem]
  · rw [if_neg h0]
    refine gcon_of_vc Try.mixed ⟨3, [], [1000000 + 138], []⟩ [2] [0] Try.func48 (by decide) rfl rfl (by simp) (by simp) (by decide) ?_
    rw [Try.ntmps48]
    simp [go_sem]
    refine ⟨_, _, c1, ?_⟩
    simp [go_sem]
    simp [go_sem, h0]
    refine ⟨_, _, c4, ?_⟩
    simp [go_sem]
    refine ⟨⟨by omega, by omega⟩, ?_⟩
    refine CallVC.of (c6) (by decide) ?_
    simp [go_sem]
/-- Lists that are drawn. -/
def lsV (f : Src → Int × Src) : Nat → Src → List Int × Src
  | 0, σ => ([], σ)
  | n + 1, σ => ((f σ).1 :: (lsV f n (f σ).2).1, (lsV f n (f σ).2).2)
theorem lsV_ok {f : Src → Int × Src} (hf : ∀ σ, SOk σ → isN (f σ).1 ∧ SOk (f σ).2) : ∀ (n : Nat) (σ : Src), SOk σ → (lsV f n σ).1.length = n ∧ Ns (lsV f n σ).1 ∧ SOk (lsV f n σ).2
  | 0, σ, h => ⟨rfl, by simp [lsV, Ns], h⟩
  | n + 1, σ, h => by
    have h1 := hf σ h
    have h2 := lsV_ok hf n _ h1.2
    refine ⟨by simp [lsV, h2.1], fun x hx => ?_, h2.2.2⟩
    rcases List.mem_cons.1 hx with rfl | hx
    · exact h1.1
    · exact h2.2.1 x hx
set_option maxRecDepth 100000 in
theorem l01List_c (c : List Int) (σ : Src) (n : Nat) (hc : Byt c) (hs : SOk σ) (hn : n ≤ 100000) :
    GCon Try.prog 198 [srcA c σ, .int n] (.own 2 n (avs (lsV (nbV c) n σ).1)) [srcA c (lsV (nbV c) n σ).2, .any] := by
  unfold srcA
  refine gcon_of_vc Try.mixed ⟨6, [], [1000000 + 246], []⟩ [4] [0] Try.func198 (by decide) rfl rfl (by simp) (by simp) (by decide) ?_
  rw [Try.ntmps198]
  simp [go_sem]
  refine loop_inv (0 :: 1 :: 5 :: List.range' 7 9) (fun x : List Int × Src × Nat => [(0, .box 183 [.sl c.length (bys c), .int x.2.1.1, .val (.int .u64 x.2.1.2)]), (1, .int x.2.2), (5, .own 2 x.1.length (avs x.1))]) (fun x => SOk x.2.1 ∧ x.1.length + x.2.2 = n ∧ x.1 ++ (lsV (nbV c) x.2.2 x.2.1).1 = (lsV (nbV c) n σ).1 ∧ (lsV (nbV c) x.2.2 x.2.1).2 = (lsV (nbV c) n σ).2) (fun x => x.2.2) ([], σ, n) ⟨hs, by simp, rfl, rfl⟩ (by simp [go_sem, avs]) (by simp [go_sem]) ?_
  rintro ⟨acc, τ, k⟩ ⟨h1, h2, h3, h4⟩
  simp only at h1 h2 h3 h4
  simp [go_sem]
  refine ⟨fun h => ?_, fun h => ?_⟩ <;> simp at h
  · obtain ⟨j, rfl⟩ : ∃ j, k = j + 1 := ⟨k - 1, by omega⟩
    have cN := l01Number_c c τ hc h1
    have hok := nbV_ok hc h1
    unfold srcA at cN
    simp only [lsV] at h3 h4
    generalize nbV c τ = r at *
    simp [go_sem]
    refine ⟨_, _, cN, ?_⟩
    simp [go_sem]
    refine ⟨⟨by omega, by omega⟩, by omega, acc ++ [r.1], r.2.1, r.2.2, j, ⟨hok.2, by simp; omega, by simpa using h3, h4⟩, by omega, Off_reset _ _ _ (by simp), ?_⟩
    simp [avs]
  · have e : k = 0 := by omega
    subst e
    simp only [lsV, List.append_nil] at h3 h4
    simp [go_sem]
    rw [← h3, ← h4]
    simp at h2
    simp [h2]
set_option maxRecDepth 100000 in
theorem list5_c (c : List Int) (σ : Src) (n : Nat) (hc : Byt c) (hs : SOk σ) (hn : n ≤ 100000) :
    GCon Try.prog 49 [dicA c σ, .int n] (.own 2 n (avs (lsV (n5V c) n σ).1)) [dicA c (lsV (n5V c) n σ).2, .any] := by
  unfold dicA
  refine gcon_of_vc Try.mixed ⟨6, [], [1000000 + 48], []⟩ [4] [0] Try.func49 (by decide) rfl rfl (by simp) (by simp) (by decide) ?_
  rw [Try.ntmps49]
  simp [go_sem]
  refine loop_inv (0 :: 1 :: 5 :: List.range' 7 9) (fun x : List Int × Src × Nat => [(0, .box 145 [.sl c.length (bys c), .int x.2.1.1, .val (.int .u64 x.2.1.2)]), (1, .int x.2.2), (5, .own 2 x.1.length (avs x.1))]) (fun x => SOk x.2.1 ∧ x.1.length + x.2.2 = n ∧ x.1 ++ (lsV (n5V c) x.2.2 x.2.1).1 = (lsV (n5V c) n σ).1 ∧ (lsV (n5V c) x.2.2 x.2.1).2 = (lsV (n5V c) n σ).2) (fun x => x.2.2) ([], σ, n) ⟨hs, by simp, rfl, rfl⟩ (by simp [go_sem, avs]) (by simp [go_sem]) ?_
  rintro ⟨acc, τ, k⟩ ⟨h1, h2, h3, h4⟩
  simp only at h1 h2 h3 h4
  simp [go_sem]
  refine ⟨fun h => ?_, fun h => ?_⟩ <;> simp at h
  · obtain ⟨j, rfl⟩ : ∃ j, k = j + 1 := ⟨k - 1, by omega⟩
    have cN := number5_c c τ hc h1
    have hok := n5V_ok hc h1
    unfold dicA at cN
    simp only [lsV] at h3 h4
    generalize n5V c τ = r at *
    simp [go_sem]
    refine ⟨_, _, cN, ?_⟩
    simp [go_sem]
    refine ⟨⟨by omega, by omega⟩, by omega, acc ++ [r.1], r.2.1, r.2.2, j, ⟨hok.2, by simp; omega, by simpa using h3, h4⟩, by omega, Off_reset _ _ _ (by simp), ?_⟩
    simp [avs]
  · have e : k = 0 := by omega
    subst e
    simp only [lsV, List.append_nil] at h3 h4
    simp [go_sem]
    rw [← h3, ← h4]
    simp at h2
    simp [h2]
set_option maxRecDepth 100000 in
/-- Where a source begins. -/
theorem l01From_r (c : List Int) (hc : Byt c) : RCon Try.prog 109 [.sl c.length (bys c)] (fun r o => o = [.any] ∧ ∃ h, r = srcA c (0, h)) := by
  have hcl := hc.1
  unfold srcA
  refine rcon_of_vcH Try.mixed ⟨5, [], [], []⟩ [] Try.func109 (by decide) rfl (by simp) (by simp) (by decide) ?_
  rw [Try.ntmps109]
  simp [go_sem]
  refine loop_inv (3 :: 4 :: List.range' 12 25) (fun x : Nat × Int => [(3, .box 183 [.sl c.length (bys c), .int 0, .val (.int .u64 x.2)]), (4, .int x.1)]) (fun x => x.1 ≤ c.length) (fun x => c.length - x.1) (0, IntKind.u64.wrap (5381 + IntKind.u64.wrap c.length)) (by simp) (by simp [go_sem]) (by simp [go_sem]) ?_
  rintro ⟨i, h⟩ hi
  simp only at hi
  by_cases hic : i < c.length
  · have h4 : (i : Int) < 4096 := by omega
    have hne : ¬ c = [] := by rintro rfl; simp at hic
    have hD := bys_drop hic
    have hb := hc.get i
    generalize c[i]?.getD 0 = b at *
    simp [go_sem, hic, h4, hD]
    refine ⟨by kernel_rfl, by intro e; exact hne (by simpa [bys] using e), ?_⟩
    refine ⟨by kernel_rfl, ?_⟩
    simp [go_sem]
    exact ⟨⟨by omega, by omega⟩, i + 1, by omega, by omega, Off_reset _ _ _ (by simp), by omega⟩
  · simp [go_sem, hic]
set_option maxRecDepth 100000 in
theorem roll_r (c : List Int) (sd : Int) (hc : Byt c) : RCon Try.prog 47 [.sl c.length (bys c), .val (.int .u64 sd)] (fun r o => o = [.any, .any] ∧ ∃ h, r = dicA c (0, h)) := by
  have hcl := hc.1
  unfold dicA
  refine rcon_of_vcH Try.mixed ⟨7, [], [], []⟩ [] Try.func47 (by decide) rfl (by simp) (by simp) (by decide) ?_
  rw [Try.ntmps47]
  simp [go_sem]
  refine loop_inv (5 :: 6 :: List.range' 16 21) (fun x : Nat × Int => [(5, .box 145 [.sl c.length (bys c), .int 0, .val (.int .u64 x.2)]), (6, .int x.1)]) (fun x => x.1 ≤ c.length) (fun x => c.length - x.1) (0, IntKind.u64.wrap (IntKind.u64.wrap (sd * 8111) + IntKind.u64.wrap c.length)) (by simp) (by simp [go_sem]) (by simp [go_sem]) ?_
  rintro ⟨i, h⟩ hi
  simp only at hi
  by_cases hic : i < c.length
  · have h4 : (i : Int) < 4096 := by omega
    have hne : ¬ c = [] := by rintro rfl; simp at hic
    have hD := bys_drop hic
    have hb := hc.get i
    generalize c[i]?.getD 0 = b at *
    simp [go_sem, hic, hD]
    refine ⟨by kernel_rfl, by intro e; exact hne (by simpa [bys] using e), ?_⟩
    refine ⟨by kernel_rfl, ?_⟩
    simp [go_sem]
    exact ⟨⟨by omega, by omega⟩, i + 1, by omega, by omega, Off_reset _ _ _ (by simp), by omega⟩
  · simp [go_sem, hic]
set_option maxRecDepth 100000 in
theorem likeInts_c (a b : List Int) (ha : a.length ≤ 9223372036854775807) : Con Try.prog 36 [.sl a.length (avs a), .sl b.length (avs b)] (.bool (decide (a = b))) := by
  by_cases hl : a.length = b.length
  · refine con_of_vc Try.mixed ⟨6, [], [], []⟩ Try.func36 (by decide) rfl (by simp) (by decide) (by simp [freshOK, freshL, go_sem]) ?_
    rw [Try.ntmps36]
    simp [go_sem]
    simp [go_sem, hl]
    refine loop_inv (4 :: 5 :: List.range' 11 15) (fun i : Nat => [(5, .int i)]) (fun i => i ≤ a.length ∧ ∀ j, j < i → a[j]?.getD 0 = b[j]?.getD 0) (fun i => a.length - i) 0 (by simp) (by simp [go_sem]) (by simp [go_sem]) ?_
    rintro i ⟨hi, hj⟩
    simp [go_sem]
    refine ⟨fun h => ?_, fun h => ?_⟩ <;> simp at h
    · have hia : i < a.length := by omega
      have hib : i < b.length := by omega
      have na : ¬ a = [] := by rintro rfl; simp at hia
      have nb : ¬ b = [] := by rintro rfl; simp at hib
      simp [go_sem, avs_drop hia, avs_drop hib]
      refine ⟨by kernel_rfl, ⟨hib, na⟩, ⟨hib, nb⟩, ?_⟩
      refine ⟨by kernel_rfl, ?_⟩
      simp [go_sem]
      refine ⟨fun h2 => ?_, fun h2 => ?_⟩ <;> simp at h2
      · have e : ¬ a = b := fun e => h2 (by rw [e])
        simp [go_sem, e]
      · simp [go_sem]
        refine ⟨by omega, i + 1, ⟨by omega, fun j hj2 => ?_⟩, by omega, Off_reset _ _ _ (by simp), by omega⟩
        rcases Nat.lt_or_ge j i with h3 | h3
        · exact hj j h3
        · have : j = i := by omega
          subst this
          exact h2
    · have e : a = b := by
        refine List.ext_getElem hl fun k h1 h2 => ?_
        have := hj k (by omega)
        simpa [h1, h2] using this
      simp [go_sem, e]
  · have e : ¬ a = b := fun e => hl (by rw [e])
    have hl2 : ¬ (a.length : Int) = b.length := by omega
    refine con_of_vc Try.mixed ⟨6, [], [], []⟩ Try.func36 (by decide) rfl (by simp) (by decide) (by simp [freshOK, freshL, go_sem]) ?_
    rw [Try.ntmps36]
    simp [go_sem]
    simp [go_sem, hl2, e]
def tm5 (a : List Int) (k : Int) : List Int := a.map fun x => x * k % 10007
@[simp] theorem tm5_len (a : List Int) (k : Int) : (tm5 a k).length = a.length := by simp [tm5]
theorem tm5_N (a : List Int) (k : Int) : Ns (tm5 a k) := fun x hx => by
  obtain ⟨y, _, rfl⟩ := List.mem_map.1 hx
  exact isN_mod _
theorem tm5_take {a : List Int} {k : Int} {i : Nat} (h : i < a.length) : tm5 (a.take (i + 1)) k = tm5 (a.take i) k ++ [a[i]?.getD 0 * k % 10007] := by
  rw [tm5, tm5, List.take_add_one, List.map_append, List.getElem?_eq_getElem h]; rfl
theorem tm5_get {a : List Int} {k : Int} {i : Nat} (h : i < a.length) : (tm5 a k)[i]?.getD 0 = a[i]?.getD 0 * k % 10007 := by simp [tm5, h]
def pl5 (a b : List Int) : List Int := (List.range a.length).map fun i => (a[i]?.getD 0 + b[i]?.getD 0) % 10007
@[simp] theorem pl5_len (a b : List Int) : (pl5 a b).length = a.length := by simp [pl5]
theorem pl5_N (a b : List Int) : Ns (pl5 a b) := fun x hx => by
  obtain ⟨y, _, rfl⟩ := List.mem_map.1 hx
  exact isN_mod _
theorem pl5_get {a b : List Int} {i : Nat} (h : i < a.length) : (pl5 a b)[i]?.getD 0 = (a[i]?.getD 0 + b[i]?.getD 0) % 10007 := by simp [pl5, h]
theorem pl5_take {a b : List Int} {i : Nat} (h : i < a.length) : (pl5 a b).take (i + 1) = (pl5 a b).take i ++ [(a[i]?.getD 0 + b[i]?.getD 0) % 10007] := by
  have hl : i < (pl5 a b).length := by simpa using h
  rw [List.take_add_one, List.getElem?_eq_getElem hl]
  simp [pl5]
set_option maxRecDepth 100000 in
theorem times5_c (a : List Int) (k : Int) (ha : a.length ≤ 1048576) (hN : Ns a) (hk : isN k) : Con Try.prog 51 [.sl a.length (avs a), .int k] (.own 2 a.length (avs (tm5 a k))) := by
  refine con_of_vc Try.mixed ⟨7, [], [], []⟩ Try.func51 (by decide) rfl (by simp) (by decide) (by simp [freshOK, freshL, go_sem]) ?_
  rw [Try.ntmps51]
  simp [go_sem]
  refine loop_inv (5 :: 6 :: List.range' 8 16) (fun i : Nat => [(5, .own 2 i (avs (tm5 (a.take i) k))), (6, .int i)]) (fun i => i ≤ a.length) (fun i => a.length - i) 0 (by simp) (by simp [go_sem, tm5, avs]) (by simp [go_sem]) ?_
  intro i hi
  simp [go_sem]
  refine ⟨fun h => ?_, fun h => ?_⟩ <;> simp at h
  · have hif := h
    have hf := mul_fits (hN.get i) hk
    have ht := tm5_take (k := k) hif
    simp [go_sem, avs_drop hif]
    refine ⟨⟨hif, by rintro rfl; simp at hif⟩, hf, ?_⟩
    refine CallVC.of (mod5_c _ hf.1 hf.2) (by decide) ?_
    simp [go_sem]
    refine ⟨⟨by omega, by omega⟩, by omega, i + 1, by omega, by omega, Off_reset _ _ _ (by simp), ?_, by omega⟩
    rw [ht]
    simp [avs]
  · have e : i = a.length := by omega
    subst e
    simp [go_sem]
set_option maxRecDepth 100000 in
theorem plus5_c (a b : List Int) (ha : a.length ≤ 1048576) (hab : a.length = b.length) (hN : Ns a) (hM : Ns b) : Con Try.prog 50 [.sl a.length (avs a), .sl b.length (avs b)] (.own 2 a.length (avs (pl5 a b))) := by
  refine con_of_vc Try.mixed ⟨7, [], [], []⟩ Try.func50 (by decide) rfl (by simp) (by decide) (by simp [freshOK, freshL, go_sem]) ?_
  rw [Try.ntmps50]
  simp [go_sem]
  refine loop_inv (5 :: 6 :: List.range' 8 25) (fun i : Nat => [(5, .own 2 i (avs ((pl5 a b).take i))), (6, .int i)]) (fun i => i ≤ a.length) (fun i => a.length - i) 0 (by simp) (by simp [go_sem, avs]) (by simp [go_sem]) ?_
  intro i hi
  by_cases hif : i < a.length
  · have hib : i < b.length := by omega
    have hf := add_fits (hN.get i) (hM.get i)
    have ht := pl5_take (b := b) hif
    have hD := avs_drop hif
    have hE := avs_drop hib
    rw [List.getD_eq_getElem?_getD] at hD hE
    have na : ¬ a = [] := by rintro rfl; simp at hif
    have nb : ¬ b = [] := by rintro rfl; simp at hib
    generalize a[i]?.getD 0 = u at *
    generalize b[i]?.getD 0 = v at *
    simp [go_sem, hif, hib, hD, hE]
    refine ⟨by kernel_rfl, na, nb, hf, ?_⟩
    refine CallD.of (mod5_c _ hf.1 hf.2) (by simp [roots, rootsL]) (by decide) ?_
    simp [go_sem]
    refine ⟨⟨by omega, by omega, by omega⟩, ?_⟩
    refine ⟨by kernel_rfl, ?_⟩
    simp [go_sem]
    refine ⟨by omega, i + 1, by omega, by omega, Off_reset _ _ _ (by simp), ?_, by omega⟩
    rw [ht]
    simp [avs]
  · have e : i = a.length := by omega
    subst e
    simp [go_sem]
    rw [List.take_of_length_le (by simp)]
end Go.Proofs.Ytoamidolomldnaa

/- Contracts: series and degrees that are drawn. -/
namespace Go.Proofs.Ytoamidolomldnaa
open Go.Abs
set_option linter.unusedVariables false
set_option linter.unusedSimpArgs false
set_option maxHeartbeats 1000000
theorem Ns.setv {a : List Int} (h : Ns a) {k : Nat} {x : Int} (hx : isN x) : Ns (a.set k x) := fun y hy => by
  rcases List.mem_or_eq_of_mem_set hy with hy | rfl
  · exact h y hy
  · exact hx
set_option maxRecDepth 100000 in
theorem l02Draw_r (c : List Int) (σ : Src) (n : Nat) (hc : Byt c) (hs : SOk σ) (hn : n ≤ 100000) :
    RCon Try.prog 111 [srcA c σ, .int n] (fun r o => ∃ (τ : Src) (a : List Int), SOk τ ∧ o = [srcA c τ, .any] ∧ a.length = n ∧ Ns a ∧ r = .own 2 n (avs a)) := by
  have cL := l01List_c c σ n hc hs hn
  have hL := lsV_ok (f := nbV c) (fun σ h => nbV_ok hc h) n σ hs
  generalize lsV (nbV c) n σ = r at *
  obtain ⟨a, σ1⟩ := r
  obtain ⟨ha, hN, s1⟩ := hL
  simp only at ha hN s1 cL
  have c4 := l01Next_c c σ1 4 hc s1
  have s4 := nx2_ok hc s1 4
  generalize nx1 c σ1 4 = v at *
  generalize nx2 c σ1 4 = τ1 at *
  simp only [srcA_eq] at *
  refine rcon_of_vcH Try.mixed ⟨7, [], [1000000 + 198, 1000000 + 110], []⟩ [0] Try.func111 (by decide) rfl (by simp) (by simp) (by decide) ?_
  rw [Try.ntmps111]
  simp [go_sem]
  refine ⟨_, _, cL, ?_⟩
  simp [go_sem]
  refine ⟨_, _, c4, ?_⟩
  simp [go_sem]
  by_cases v0 : v = 0
  · simp [go_sem, v0]
    refine loop_inv (0 :: 5 :: 6 :: List.range' 13 12) (fun x : Src × List Int × Nat => [(0, .box 183 [.sl c.length (bys c), .int x.1.1, .val (.int .u64 x.1.2)]), (5, .own 2 n (avs x.2.1)), (6, .int x.2.2)]) (fun x => SOk x.1 ∧ x.2.1.length = n ∧ Ns x.2.1) (fun x => n - x.2.2) (τ1, a, 1) ⟨s4, ha, hN⟩ (by simp [go_sem]) (by simp [go_sem]) ?_
    rintro ⟨ρ, b, i⟩ ⟨q1, q2, q3⟩
    simp only at q1 q2 q3
    simp [go_sem]
    refine ⟨fun h => ?_, fun h => ?_⟩ <;> simp at h
    · have c5 := l01Next_c c ρ 2 hc q1
      have s5 := nx2_ok hc q1 2
      generalize nx1 c ρ 2 = u at *
      generalize nx2 c ρ 2 = ρ1 at *
      simp only [srcA_eq] at c5
      simp [go_sem]
      refine ⟨_, _, c5, ?_⟩
      simp [go_sem]
      by_cases u0 : u = 0
      · simp [go_sem, u0]
        refine ⟨by omega, by omega, ⟨by omega, by omega⟩, ρ1.1, ρ1.2, b.set i 0, ⟨s5, by simpa using q2, q3.setv ⟨by omega, by omega⟩⟩, i + 1, by omega, Off_reset _ _ _ (by simp), ?_⟩
        have := avs_set b i 0
        simp [this]
      · simp [go_sem, u0]
        exact ⟨⟨by omega, by omega⟩, ρ1.1, ρ1.2, b, ⟨s5, q2, q3⟩, i + 1, by omega, Off_reset _ _ _ (by simp), ⟨rfl, rfl⟩, rfl, by omega⟩
    · simp [go_sem]
      exact ⟨ρ.1, ρ.2, q1, ⟨rfl, rfl⟩, q2, q3⟩
  · simp [go_sem, v0]
    exact ⟨τ1.1, τ1.2, s4, ⟨rfl, rfl⟩, ha, hN⟩
set_option maxRecDepth 100000 in
theorem l01Count_r (c : List Int) (σ : Src) (m : Nat) (hc : Byt c) (hs : SOk σ) (hm : m ≤ 1000) :
    RCon Try.prog 124 [srcA c σ, .int m] (fun r o => ∃ (τ : Src) (x : Int), SOk τ ∧ o = [srcA c τ, .any] ∧ -4611686018427387904 ≤ x ∧ x ≤ 1099511627776 ∧ r = .int x) := by
  have c4 := l01Next_c c σ 12 hc hs
  have s4 := nx2_ok hc hs 12
  generalize nx1 c σ 12 = v at *
  generalize nx2 c σ 12 = τ1 at *
  by_cases v0 : v = 0
  · have c5 := l01Pick_c c τ1 [-1, (m : Int) + 1, 1099511627776, -4611686018427387904] hc s4 (by simp) (by simp)
    have m5 := pk_mem c hc τ1 (xs := [-1, (m : Int) + 1, 1099511627776, -4611686018427387904]) (by simp)
    have s5 := nx2_ok hc s4 4
    have e4 : (([-1, (m : Int) + 1, 1099511627776, -4611686018427387904] : List Int).length : Int) = 4 := rfl
    rw [e4] at c5
    generalize pk c τ1 [-1, (m : Int) + 1, 1099511627776, -4611686018427387904] = x at *
    generalize nx2 c τ1 4 = τ2 at *
    simp only [srcA_eq] at *
    refine rcon_of_vcH Try.mixed ⟨5, [], [1000000 + 110, 1000000 + 114], []⟩ [0] Try.func124 (by decide) rfl (by simp) (by simp) (by decide) ?_
    rw [Try.ntmps124]
    simp [go_sem]
    refine ⟨_, _, c4, ?_⟩
    simp [go_sem]
    simp [go_sem, v0]
    refine ⟨⟨by omega, by omega⟩, ?_⟩
    refine ⟨_, _, c5, ?_⟩
    simp [go_sem]
    refine ⟨τ2.1, τ2.2, s5, ⟨rfl, rfl⟩, ?_⟩
    simp at m5
    omega
  · have c5 := l01Next_c c τ1 ((m : Int) + 1) hc s4
    have b5 := nx1_b hc τ1 (n := (m : Int) + 1) (by omega)
    have s5 := nx2_ok hc s4 ((m : Int) + 1)
    generalize nx1 c τ1 ((m : Int) + 1) = x at *
    generalize nx2 c τ1 ((m : Int) + 1) = τ2 at *
    simp only [srcA_eq] at *
    refine rcon_of_vcH Try.mixed ⟨5, [], [1000000 + 110, 1000000 + 114], []⟩ [0] Try.func124 (by decide) rfl (by simp) (by simp) (by decide) ?_
    rw [Try.ntmps124]
    simp [go_sem]
    refine ⟨_, _, c4, ?_⟩
    simp [go_sem]
    simp [go_sem, v0]
    refine ⟨⟨by omega, by omega⟩, ?_⟩
    refine ⟨_, _, c5, ?_⟩
    simp [go_sem]
    exact ⟨τ2.1, τ2.2, s5, ⟨rfl, rfl⟩, by omega, by omega⟩
set_option maxRecDepth 100000 in
theorem DrawExponentialPade_r (c : List Int) (hc : Byt c) :
    RCon Try.prog 38 [.sl c.length (bys c)] (fun r o => o = [.any] ∧ ∃ x y : Int, -4611686018427387904 ≤ x ∧ x ≤ 1099511627776 ∧ -4611686018427387904 ≤ y ∧ y ≤ 1099511627776 ∧ r = .tup [.int x, .int y]) := by
  have c0 := l01From_r c hc
  refine rcon_of_vcH Try.mixed ⟨5, [], [2000000 + 109, 2000000 + 124], []⟩ [] Try.func38 (by decide) rfl (by simp) (by simp) (by decide) ?_
  rw [Try.ntmps38]
  simp [go_sem]
  refine ⟨_, c0, ?_⟩
  rintro _ _ ⟨rfl, h, rfl⟩
  have c1 := l01Count_r c (0, h) 8 hc (by unfold SOk; simp) (by omega)
  simp only [srcA_eq] at *
  simp [go_sem]
  refine ⟨_, c1, ?_⟩
  rintro _ _ ⟨τ, x, h1, rfl, x1, x2, rfl⟩
  have c2 := l01Count_r c τ 8 hc h1 (by omega)
  simp only [srcA_eq] at *
  simp [go_sem]
  refine ⟨_, c2, ?_⟩
  rintro _ _ ⟨τ2, y, h2, rfl, y1, y2, rfl⟩
  simp [go_sem]
  exact ⟨x, x1, x2, y, y1, y2, rfl, rfl⟩
end Go.Proofs.Ytoamidolomldnaa

/- Contracts: what FnPade draws. -/
namespace Go.Proofs.Ytoamidolomldnaa
open Go.Abs
set_option linter.unusedVariables false
set_option linter.unusedSimpArgs false
set_option maxHeartbeats 4000000
theorem tb_len' (f : Nat → Int) (n : Nat) : (tb f n).length = n := by simp
set_option maxRecDepth 100000 in
theorem DrawPadeOf_r (c : List Int) (hc : Byt c) :
    RCon Try.prog 33 [.sl c.length (bys c)] (fun r o => o = [.any] ∧ ∃ (a : List Int) (m n : Int), a.length ≤ 16 ∧ -1 ≤ m ∧ m ≤ 9 ∧ -1 ≤ n ∧ n ≤ 9 ∧ r = .tup [.own 2 a.length (avs a), .int m, .int n]) := by
  have c0 := l01From_r c hc
  refine rcon_of_vcH Try.mixed ⟨10, [], [1000000 + 110, 1000000 + 114, 2000000 + 109, 2000000 + 111], []⟩ [] Try.func33 (by decide) rfl (by simp) (by simp) (by decide) ?_
  rw [Try.ntmps33]
  simp [go_sem]
  refine ⟨_, c0, ?_⟩
  rintro _ _ ⟨rfl, h, rfl⟩
  have s0 : SOk ((0, h) : Src) := by unfold SOk; simp
  generalize ((0, h) : Src) = σ0 at *
  have k1 := l01Next_c c σ0 5 hc s0
  have s1 := nx2_ok hc s0 5
  have b1 := nx1_b hc σ0 (n := 5) (by omega)
  generalize nx2 c σ0 5 = σ1 at *
  obtain ⟨m, hm⟩ : ∃ m : Nat, nx1 c σ0 5 = m := ⟨(nx1 c σ0 5).toNat, by omega⟩
  rw [hm] at k1 b1
  have k2 := l01Next_c c σ1 5 hc s1
  have s2 := nx2_ok hc s1 5
  have b2 := nx1_b hc σ1 (n := 5) (by omega)
  generalize nx2 c σ1 5 = σ2 at *
  obtain ⟨n, hn⟩ : ∃ n : Nat, nx1 c σ1 5 = n := ⟨(nx1 c σ1 5).toNat, by omega⟩
  rw [hn] at k2 b2
  have k3 := l01Next_c c σ2 3 hc s2
  have s3 := nx2_ok hc s2 3
  have b3 := nx1_b hc σ2 (n := 3) (by omega)
  generalize nx2 c σ2 3 = σ3 at *
  obtain ⟨e, he⟩ : ∃ e : Nat, nx1 c σ2 3 = e := ⟨(nx1 c σ2 3).toNat, by omega⟩
  rw [he] at k3 b3
  have k4 := l02Draw_r c σ3 (m + n + 1 + e) hc s3 (by omega)
  have e4 : ((m + n + 1 + e : Nat) : Int) = (m : Int) + n + 1 + e := by omega
  rw [e4] at k4
  simp only [srcA_eq] at *
  simp [go_sem]
  refine ⟨_, _, k1, ?_⟩
  simp [go_sem]
  refine ⟨_, _, k2, ?_⟩
  simp [go_sem]
  refine ⟨⟨by omega, by omega⟩, ⟨by omega, by omega⟩, ?_⟩
  refine ⟨_, _, k3, ?_⟩
  simp [go_sem]
  refine ⟨⟨by omega, by omega⟩, ?_⟩
  refine ⟨_, k4, ?_⟩
  rintro _ _ ⟨σ4, a, s4, rfl, ha, hN, rfl⟩
  have k5 := l01Next_c c σ4 8 hc s4
  have s5 := nx2_ok hc s4 8
  generalize nx1 c σ4 8 = v at *
  generalize nx2 c σ4 8 = σ5 at *
  have la : a.length ≤ 16 := by omega
  rw [← ha]
  simp only [srcA_eq] at *
  simp [go_sem]
  refine ⟨_, _, k5, ?_⟩
  simp [go_sem]
  by_cases v0 : v = 0
  · have u1 := l02Unit_c a.length 1 (by omega) (by omega)
    have u2 := l02Exp_c (tb (fun i => if i = 1 then 1 else 0) a.length) (tb_N fun i _ => by split <;> exact ⟨by omega, by omega⟩) (by simp; omega)
    rw [tb_len'] at u2
    have u3 : (xsum (tb (fun i => if i = 1 then 1 else 0) a.length) a.length).length = a.length := by rw [xsum_len]; simp
    generalize xsum (tb (fun i => if i = 1 then 1 else 0) a.length) a.length = A at *
    simp [go_sem, v0]
    refine CallVC.of (u1) (by decide) ?_
    simp [go_sem]
    refine CallVC.of (u2) (by decide) ?_
    simp [go_sem]
    rw [← u3]
    have lA : A.length ≤ 16 := by omega
    have z1 := l01Next_c c σ5 20 hc s5
    have z2 := nx2_ok hc s5 20
    generalize nx1 c σ5 20 = zz at *
    generalize nx2 c σ5 20 = σ6 at *
    have z3 := l01Pick_c c σ6 [-1, 9, 8] hc z2 (by simp) (by simp)
    have z4 := pk_mem c hc σ6 (xs := [-1, 9, 8]) (by simp)
    have z5 : (([-1, 9, 8] : List Int).length : Int) = 3 := rfl
    rw [z5] at z3
    generalize pk c σ6 [-1, 9, 8] = y at *
    simp only [srcA_eq] at z1 z3
    simp -failIfUnchanged [go_sem, v0]
    refine ⟨_, _, z1, ?_⟩
    simp [go_sem]
    by_cases zz0 : zz = 0
    · simp [go_sem, zz0]
      refine ⟨_, _, z3, ?_⟩
      simp [go_sem]
      simp at z4
      exact ⟨A, lA, y, by omega, by omega, n, by omega, by omega, ⟨rfl, rfl⟩, rfl, rfl⟩
    · simp [go_sem, zz0]
      exact ⟨A, lA, m, by omega, by omega, n, by omega, by omega, ⟨rfl, rfl⟩, rfl, rfl⟩
  · by_cases v1 : v = 1
    · have w1 := l01Next_c c σ5 16 hc s5
      have w2 := nx2_ok hc s5 16
      have w3 := nx1_b hc σ5 (n := 16) (by omega)
      generalize nx2 c σ5 16 = τ1 at *
      obtain ⟨k, hk⟩ : ∃ k : Nat, nx1 c σ5 16 = k := ⟨(nx1 c σ5 16).toNat, by omega⟩
      rw [hk] at w1 w3
      have w4 := l02Draw_r c τ1 (1 + k) hc w2 (by omega)
      have w5 : ((1 + k : Nat) : Int) = 1 + (k : Int) := by omega
      rw [w5] at w4
      simp only [srcA_eq] at w1 w4
      simp [go_sem, v0, v1]
      refine ⟨_, _, w1, ?_⟩
      simp [go_sem]
      refine ⟨⟨by omega, by omega⟩, ?_⟩
      refine ⟨_, w4, ?_⟩
      rintro _ _ ⟨τ2, A, t2, rfl, hA, hAN, rfl⟩
      have lA : A.length ≤ 16 := by omega
      rw [← hA]
      have z1 := l01Next_c c τ2 20 hc t2
      have z2 := nx2_ok hc t2 20
      generalize nx1 c τ2 20 = zz at *
      generalize nx2 c τ2 20 = σ6 at *
      have z3 := l01Pick_c c σ6 [-1, 9, 8] hc z2 (by simp) (by simp)
      have z4 := pk_mem c hc σ6 (xs := [-1, 9, 8]) (by simp)
      have z5 : (([-1, 9, 8] : List Int).length : Int) = 3 := rfl
      rw [z5] at z3
      generalize pk c σ6 [-1, 9, 8] = y at *
      simp only [srcA_eq] at z1 z3
      simp -failIfUnchanged [go_sem, v0]
      refine ⟨_, _, z1, ?_⟩
      simp [go_sem]
      by_cases zz0 : zz = 0
      · simp [go_sem, zz0]
        refine ⟨_, _, z3, ?_⟩
        simp [go_sem]
        simp at z4
        exact ⟨A, lA, y, by omega, by omega, n, by omega, by omega, ⟨rfl, rfl⟩, rfl, rfl⟩
      · simp [go_sem, zz0]
        exact ⟨A, lA, m, by omega, by omega, n, by omega, by omega, ⟨rfl, rfl⟩, rfl, rfl⟩
    · by_cases v2 : v = 2
      · simp [go_sem, v0, v1, v2]
        refine ⟨by omega, ?_⟩
        refine loop_inv (8 :: 9 :: List.range' 44 15) (fun x : List Int × Nat => [(8, .own 2 a.length (avs x.1)), (9, .int x.2)]) (fun x => x.1.length = a.length ∧ Ns x.1 ∧ 1 ≤ x.2) (fun x => a.length - x.2) (a.set 0 1, 1) ⟨by simp, hN.setv ⟨by omega, by omega⟩, by simp⟩ (by have := avs_set a 0 1; simp [go_sem, this]) (by simp [go_sem]) ?_
        rintro ⟨b, i⟩ ⟨q1, q2, q3⟩
        simp only at q1 q2 q3
        simp [go_sem]
        refine ⟨fun h => ?_, fun h => ?_⟩ <;> simp at h
        · obtain ⟨j, rfl⟩ : ∃ j, i = j + 1 := ⟨i - 1, by omega⟩
          have hj : j < b.length := by omega
          have hA := avs_at hj
          have hbj := q2.get j
          have cM := l01Mul_c (b[j]?.getD 0) 2 (mul_fits hbj ⟨by omega, by omega⟩)
          generalize b[j]?.getD 0 = u at *
          simp [go_sem, hA]
          refine ⟨by omega, by omega, ?_⟩
          refine CallVC.of (cM) (by decide) ?_
          simp [go_sem]
          exact ⟨⟨by omega, by omega⟩, by omega, ⟨by omega, by omega⟩, b.set (j + 1) (u * 2 % 10007), j + 1 + 1, ⟨by simpa using q1, q2.setv (isN_mod _), by omega⟩, by omega, (by repeat (first | exact Off_reset _ _ _ (by simp) | (refine Off.reset (by intro x hx; simp at hx ⊢; omega) (by simp) ?_; simp -failIfUnchanged [go_sem, Off_reset]))), avs_set _ _ _, by omega⟩
        · have lb : b.length ≤ 16 := by omega
          rw [← q1]
          have z1 := l01Next_c c σ5 20 hc s5
          have z2 := nx2_ok hc s5 20
          generalize nx1 c σ5 20 = zz at *
          generalize nx2 c σ5 20 = σ6 at *
          have z3 := l01Pick_c c σ6 [-1, 9, 8] hc z2 (by simp) (by simp)
          have z4 := pk_mem c hc σ6 (xs := [-1, 9, 8]) (by simp)
          have z5 : (([-1, 9, 8] : List Int).length : Int) = 3 := rfl
          rw [z5] at z3
          generalize pk c σ6 [-1, 9, 8] = y at *
          simp only [srcA_eq] at z1 z3
          simp -failIfUnchanged [go_sem, q1]
          refine ⟨_, _, z1, ?_⟩
          simp [go_sem]
          by_cases zz0 : zz = 0
          · simp [go_sem, zz0]
            refine ⟨_, _, z3, ?_⟩
            simp [go_sem]
            simp at z4
            exact ⟨b, lb, y, by omega, by omega, n, by omega, by omega, ⟨q1.symm, rfl⟩, rfl, rfl⟩
          · simp [go_sem, zz0]
            exact ⟨b, lb, m, by omega, by omega, n, by omega, by omega, ⟨q1.symm, rfl⟩, rfl, rfl⟩
      · simp [go_sem, v0, v1, v2]
        have z1 := l01Next_c c σ5 20 hc s5
        have z2 := nx2_ok hc s5 20
        generalize nx1 c σ5 20 = zz at *
        generalize nx2 c σ5 20 = σ6 at *
        have z3 := l01Pick_c c σ6 [-1, 9, 8] hc z2 (by simp) (by simp)
        have z4 := pk_mem c hc σ6 (xs := [-1, 9, 8]) (by simp)
        have z5 : (([-1, 9, 8] : List Int).length : Int) = 3 := rfl
        rw [z5] at z3
        generalize pk c σ6 [-1, 9, 8] = y at *
        simp only [srcA_eq] at z1 z3
        simp -failIfUnchanged [go_sem, v0]
        refine ⟨_, _, z1, ?_⟩
        simp [go_sem]
        by_cases zz0 : zz = 0
        · simp [go_sem, zz0]
          refine ⟨_, _, z3, ?_⟩
          simp [go_sem]
          simp at z4
          exact ⟨a, la, y, by omega, by omega, n, by omega, by omega, ⟨rfl, rfl⟩, rfl, rfl⟩
        · simp [go_sem, zz0]
          exact ⟨a, la, m, by omega, by omega, n, by omega, by omega, ⟨rfl, rfl⟩, rfl, rfl⟩
end Go.Proofs.Ytoamidolomldnaa

/- What comes in at the statements of this part: tableaus, vectors, matrices. -/
namespace Go.Proofs.Ytoamidolomldnaa
open Go.ChangeShapes Go.WideShapes Go.ChangeAt Go.RowKit Go.Abs Go.Deep
set_option linter.unusedVariables false
section
variable {H : Type} {enc : TypeId × Value → H} {w : World} {sp : Nat → Bool} {held : Bool} {base : Nat}
theorem kids : Kids Try.prog (· < Try.prog.types.size) := kids_rows (by kernel_rfl) (by kernel_rfl)
theorem full : ∀ t e, t < Try.prog.types.size → Try.prog.underlying t = some (.slice e) → 0 < Try.prog.cellsOf e := slices_full_of Try.prog (by kernel_rfl)

theorem flat1 {α β : Type} (g : α → β) : ∀ qs : List α, qs.flatMap (fun a => [g a]) = qs.map g
  | [] => rfl
  | a :: qs => by rw [List.flatMap_cons, flat1 g qs]; rfl
theorem open_vec {n : Nat} {cs : List Value} {x : DataW H × List MemPlace} (h : DataW.trod enc Try.prog w base sp held n 23 cs = some x) :
    ∃ xs : List Int, (∀ z ∈ xs, (Lit.int .i64 z).wf = true) ∧ xs.length ≤ 9223372036854775807 ∧ RepL Try.prog w (fun b => b < w.heap.size) [.sl xs.length (avs xs)] cs [] ∧ cs.length = 1 := by
  obtain ⟨qs, h1, h2, h3, h4⟩ := open_sl (f := fun z : Int => [AV.int z]) (Good := fun z => (Lit.int .i64 z).wf = true) Try.underlying23 (s := 1) (by kernel_rfl) (by decide) (fun _ => rfl)
    (fun n cs y hy => by obtain ⟨z, k1, k2, _⟩ := open_i Try.underlying2 hy; exact ⟨z, k1, k2⟩) h
  exact ⟨qs, h1, h2, by rw [flat1] at h3; exact h3, h4⟩
theorem open_mat {n : Nat} {cs : List Value} {x : DataW H × List MemPlace} (h : DataW.trod enc Try.prog w base sp held n 22 cs = some x) :
    ∃ xs : List (List Int), (∀ r ∈ xs, (∀ z ∈ r, (Lit.int .i64 z).wf = true) ∧ r.length ≤ 9223372036854775807) ∧ xs.length ≤ 9223372036854775807 ∧ RepL Try.prog w (fun b => b < w.heap.size) [.sl xs.length (mat xs)] cs [] ∧ cs.length = 1 := by
  obtain ⟨qs, h1, h2, h3, h4⟩ := open_sl (f := fun r : List Int => [AV.sl r.length (avs r)]) (Good := fun r => (∀ z ∈ r, (Lit.int .i64 z).wf = true) ∧ r.length ≤ 9223372036854775807) Try.underlying22 (s := 1) (by kernel_rfl) (by decide) (fun _ => rfl)
    (fun n cs y hy => by obtain ⟨z, k1, k2, k3, _⟩ := open_vec hy; exact ⟨z, ⟨k1, k2⟩, k3⟩) h
  exact ⟨qs, h1, h2, by rw [flat1] at h3; exact h3, h4⟩
/-- A number's worth of cells of the tuple is what the walk takes. -/
theorem rep_one {F : Nat → Prop} {tm : Nat → Value} {oss : Nat → List Nat} {c : AV} {v : Value} (h : RepL Try.prog w F [c] [v] []) : RepT Try.prog w F tm oss c v [] := .cell _ _ _ (RepL.one h)
set_option maxRecDepth 100000 in
theorem repV {F : Nat → Prop} {tm : Nat → Value} {oss : Nat → List Nat} {t e : TypeId} {v : Value} {c : AV} {r : Reach} {b0 : Nat} (ht : Try.prog.underlying t = some (.slice e)) (hv : Value.okWide Try.prog w r b0 t v) (h : RepL Try.prog w F [c] v.cells.toList []) :
    RepT Try.prog w F tm oss c v [] := by
  have hc : v.cells.toList = [v] := by
    simp only [Value.okWide, ht] at hv
    cases v <;> simp_all [Value.cells, Cell.okWide, Cell.ok]
  rw [hc] at h
  exact rep_one h
set_option maxRecDepth 100000 in
/-- A tableau. -/
theorem open_tabl {r : Reach} {b0 : Nat} {v : Value} {d : DataW H} {p : List MemPlace} (hv : Value.okWide Try.prog w r b0 25 v) (h : DataW.Trod enc Try.prog w base sp held 25 v d p) :
    ∃ (xs : List (List Int)) (b : List Int), (∀ r ∈ xs, (∀ z ∈ r, (Lit.int .i64 z).wf = true) ∧ r.length ≤ 9223372036854775807) ∧ xs.length ≤ 9223372036854775807 ∧ (∀ z ∈ b, (Lit.int .i64 z).wf = true) ∧ b.length ≤ 9223372036854775807 ∧
      ∀ tm oss, RepT Try.prog w (fun b => b < w.heap.size) tm oss (.agg [.sl xs.length (mat xs), .sl b.length (avs b)]) v [] := by
  obtain ⟨v0, v1, y0, y1, n, rfl, rfl, rfl, k0, k1⟩ := Joins.open_agg2 Try.underlying25 (by kernel_rfl) (by kernel_rfl) hv h
  obtain ⟨xs, a1, a2, a3, _⟩ := open_mat k0
  obtain ⟨b, b1, b2, b3, _⟩ := open_vec k1
  exact ⟨xs, b, a1, a2, b1, b2, fun tm oss => .agg _ [v0, v1] [] rfl (.cons _ _ [] _ _ [] (rep_one a3) (.cons _ _ [] _ _ [] (rep_one b3) (.nil _)))⟩
end
end Go.Proofs.Ytoamidolomldnaa

/- Contracts: what the laws of drawn things call. -/
namespace Go.Proofs.Ytoamidolomldnaa
open Go.Abs
set_option linter.unusedVariables false
set_option linter.unusedSimpArgs false
set_option maxHeartbeats 1000000
open Go.ChangeShapes Go.WideShapes Go.ChangeAt Go.RowKit Go.Deep
theorem big_c (c : List Int) (hl : c.length ≤ 9223372036854775807) : Con Try.prog 32 [.sl c.length (bys c)] (.bool (decide (4096 < c.length))) := by
  refine con_of_vc Try.mixed ⟨3, [], [], []⟩ Try.func32 (by decide) rfl (by simp) (by decide) (by simp [freshOK, freshL, go_sem]) ?_
  rw [Try.ntmps32]
  simp [go_sem]
  omega
theorem DotOf_c (a b : List Int) (h : a.length = b.length) (hl : a.length ≤ 16) (ha : Ns a) (hb : Ns b) : Con Try.prog 52 [.sl a.length (avs a), .sl b.length (avs b)] (.tup [.int (dotI a b % 10007), .int 0]) := by
  have c1 := areNumbers_c a (by omega)
  have c2 := areNumbers_c b (by omega)
  have c3 := dot_c a b (by omega) (by omega) ha hb
  rw [numsB_N.2 ha] at c1
  rw [numsB_N.2 hb] at c2
  have h2 : (a.length : Int) = b.length := by omega
  have h64 : ¬ (64 : Int) < b.length := by omega
  rw [h] at c1 c3
  refine con_of_vc Try.mixed ⟨6, [], [], []⟩ Try.func52 (by decide) rfl (by simp) (by decide) (by simp [freshOK, freshL, go_sem]) ?_
  rw [Try.ntmps52]
  simp [go_sem]
  simp [go_sem, h, h64]
  refine CallVC.of (c1) (by decide) ?_
  simp [go_sem]
  refine CallVC.of (c2) (by decide) ?_
  simp [go_sem]
  refine CallVC.of (c3) (by decide) ?_
  simp [go_sem]
section
variable {H : Type} {enc : TypeId × Value → H} {w : World} {sp : Nat → Bool} {held : Bool} {base : Nat}
/-- Bytes that come in. -/
theorem open_bys {n : Nat} {cs : List Value} {x : DataW H × List MemPlace} (h : DataW.trod enc Try.prog w base sp held n 58 cs = some x) :
    ∃ xs : List Int, (∀ z ∈ xs, 0 ≤ z ∧ z ≤ 255) ∧ xs.length ≤ 9223372036854775807 ∧ RepL Try.prog w (fun b => b < w.heap.size) [.sl xs.length (bys xs)] cs [] ∧ cs.length = 1 := by
  obtain ⟨qs, h1, h2, h3, h4⟩ := open_sl (f := fun z : Int => [AV.val (.int .u8 z)]) (Good := fun z => (Lit.int .u8 z).wf = true) Try.underlying58 (s := 1) (by kernel_rfl) (by decide) (fun _ => rfl)
    (fun n cs y hy => by obtain ⟨z, k1, k2, _⟩ := open_i Try.underlying5 hy; exact ⟨z, k1, k2⟩) h
  refine ⟨qs, fun z hz => ?_, h2, by rw [flat1] at h3; exact h3, h4⟩
  have := h1 z hz
  simp [Lit.wf, IntKind.min, IntKind.max, IntKind.signed, IntKind.bits] at this
  omega
end
end Go.Proofs.Ytoamidolomldnaa

/- Plain: determinants, by the first column. -/
namespace Go.Proofs.Ytoamidolomldnaa
set_option linter.unusedVariables false
set_option linter.unusedSimpArgs false
set_option maxHeartbeats 1000000
abbrev Mx := Nat → Nat → Int
def sgd (i : Nat) : Int := if i % 2 = 0 then 1 else -1
theorem sgd_succ (i : Nat) : sgd (i + 1) = - sgd i := by
  unfold sgd
  by_cases h : i % 2 = 0
  · rw [if_pos h, if_neg (by omega)]
  · rw [if_neg h, if_pos (by omega)]; rfl
def dsum (f : Nat → Int) : Nat → Int
  | 0 => 0
  | n + 1 => dsum f n + f n
theorem dsum_congr {f g : Nat → Int} : ∀ {n : Nat}, (∀ i, i < n → f i = g i) → dsum f n = dsum g n
  | 0, _ => rfl
  | n + 1, h => by rw [dsum, dsum, dsum_congr (fun i hi => h i (by omega)), h n (by omega)]
theorem dsum_lin (f g : Nat → Int) (k : Int) : ∀ n : Nat, dsum (fun i => f i + k * g i) n = dsum f n + k * dsum g n
  | 0 => by simp [dsum]
  | n + 1 => by rw [dsum, dsum, dsum, dsum_lin f g k n, Int.mul_add]; omega
theorem dsum_zero {f : Nat → Int} : ∀ {n : Nat}, (∀ i, i < n → f i = 0) → dsum f n = 0
  | 0, _ => rfl
  | n + 1, h => by rw [dsum, dsum_zero (fun i hi => h i (by omega)), h n (by omega)]; rfl
theorem dsum_one {f : Nat → Int} {k : Nat} : ∀ {n : Nat}, k < n → (∀ i, i < n → i ≠ k → f i = 0) → dsum f n = f k
  | 0, h, _ => by omega
  | n + 1, h, hz => by
    rw [dsum]
    by_cases e : k = n
    · subst e
      rw [dsum_zero (fun i hi => hz i (by omega) (by omega)), Int.zero_add]
    · rw [dsum_one (n := n) (by omega) (fun i hi hne => hz i (by omega) hne), hz n (by omega) (by omega), Int.add_zero]
theorem dsum_two {f : Nat → Int} {k : Nat} : ∀ {n : Nat}, k + 1 < n → (∀ i, i < n → i ≠ k → i ≠ k + 1 → f i = 0) → dsum f n = f k + f (k + 1)
  | 0, h, _ => by omega
  | n + 1, h, hz => by
    rw [dsum]
    by_cases e : k + 1 = n
    · subst e
      rw [dsum_one (k := k) (by omega) (fun i hi hne => hz i (by omega) hne (by omega))]
    · rw [dsum_two (n := n) (by omega) (fun i hi h1 h2 => hz i (by omega) h1 h2), hz n (by omega) (by omega) (by omega), Int.add_zero]
def mnr (M : Mx) (i : Nat) : Mx := fun r c => M (if r < i then r else r + 1) (c + 1)
def det : Nat → Mx → Int
  | 0, _ => 1
  | n + 1, M => dsum (fun i => sgd i * M i 0 * det n (mnr M i)) (n + 1)
def updR (M : Mx) (i : Nat) (w : Nat → Int) : Mx := fun r => if r = i then w else M r
theorem updR_self (M : Mx) (i : Nat) : updR M i (M i) = M := funext fun r => by
  unfold updR; split
  · rename_i h; rw [h]
  · rfl
theorem updR_at (M : Mx) (i : Nat) (w : Nat → Int) : updR M i w i = w := by simp [updR]
theorem updR_ne (M : Mx) {i r : Nat} (w : Nat → Int) (h : r ≠ i) : updR M i w r = M r := by simp [updR, h]
theorem updR_upd (M : Mx) (i : Nat) (v w : Nat → Int) : updR (updR M i v) i w = updR M i w := funext fun r => by
  unfold updR; split <;> rfl
theorem updR_comm (M : Mx) {i j : Nat} (h : i ≠ j) (v w : Nat → Int) : updR (updR M i v) j w = updR (updR M j w) i v := funext fun r => by
  unfold updR
  by_cases h1 : r = i
  · subst h1; rw [if_neg h, if_pos rfl, if_pos rfl]
  · rw [if_neg h1, if_neg h1]
theorem mnr_self (M : Mx) (i : Nat) (w : Nat → Int) : mnr (updR M i w) i = mnr M i := funext fun r => funext fun c => by
  unfold mnr updR
  rw [if_neg (by split <;> omega)]
theorem mnr_ne (M : Mx) {i j : Nat} (w : Nat → Int) (h : j ≠ i) : mnr (updR M i w) j = updR (mnr M j) (if i < j then i else i - 1) (fun c => w (c + 1)) := funext fun r => funext fun c => by
  unfold mnr updR
  by_cases h1 : (if r < j then r else r + 1) = i
  · have h2 : r = if i < j then i else i - 1 := by
      split at h1 <;> split <;> omega
    rw [if_pos h1, if_pos h2]
  · have h2 : ¬ r = if i < j then i else i - 1 := by
      split at h1 <;> split <;> omega
    rw [if_neg h1, if_neg h2]
theorem det_congr : ∀ {n : Nat} {M N : Mx}, (∀ r c, r < n → c < n → M r c = N r c) → det n M = det n N
  | 0, _, _, _ => rfl
  | n + 1, M, N, h => by
    rw [det, det]
    refine dsum_congr fun i hi => ?_
    rw [h i 0 hi (by omega)]
    rw [det_congr (n := n) (M := mnr M i) (N := mnr N i) (fun r c hr hc => h _ _ (by split <;> omega) (by omega))]
theorem det_cong {p : Int} : ∀ {n : Nat} {M N : Mx}, (∀ r c, r < n → c < n → M r c % p = N r c % p) → det n M % p = det n N % p
  | 0, _, _, _ => rfl
  | n + 1, M, N, h => by
    rw [det, det]
    have gen : ∀ m : Nat, m ≤ n + 1 → dsum (fun i => sgd i * M i 0 * det n (mnr M i)) m % p = dsum (fun i => sgd i * N i 0 * det n (mnr N i)) m % p := by
      intro m
      induction m with
      | zero => intro _; rfl
      | succ m ih =>
        intro hm
        rw [dsum, dsum, Int.add_emod, ih (by omega), Int.add_emod (dsum (fun i => sgd i * N i 0 * det n (mnr N i)) m)]
        have e1 := h m 0 (by omega) (by omega)
        have e2 := det_cong (p := p) (n := n) (M := mnr M m) (N := mnr N m) (fun r c hr hc => h _ _ (by split <;> omega) (by omega))
        have e3 : (sgd m * M m 0 * det n (mnr M m)) % p = (sgd m * N m 0 * det n (mnr N m)) % p := by
          rw [Int.mul_emod, Int.mul_emod (sgd m), e1, e2, ← Int.mul_emod (sgd m), ← Int.mul_emod]
        rw [e3]
    exact gen _ (Nat.le_refl _)
/-- Linear in each row. -/
theorem det_lin : ∀ {n : Nat} (M : Mx) {i : Nat} (u v : Nat → Int) (k : Int), i < n → det n (updR M i (fun c => u c + k * v c)) = det n (updR M i u) + k * det n (updR M i v)
  | 0, _, _, _, _, _, h => by omega
  | n + 1, M, i, u, v, k, h => by
    rw [det, det, det, ← dsum_lin]
    refine dsum_congr fun j hj => ?_
    by_cases e : j = i
    · subst e
      simp only [mnr_self, updR_at]
      generalize det n (mnr M j) = d
      rw [Int.mul_add, Int.add_mul]
      congr 1
      ac_rfl
    · simp only [mnr_ne M _ e, updR_ne M _ e]
      rw [det_lin (n := n) (mnr M j) (fun c => u (c + 1)) (fun c => v (c + 1)) k (by split <;> omega), Int.mul_add]
      congr 1
      ac_rfl
/-- Two equal rows beside each other. -/
theorem det_adj : ∀ {n : Nat} (M : Mx) {i : Nat}, i + 1 < n → M i = M (i + 1) → det n M = 0
  | 0, _, _, h, _ => by omega
  | n + 1, M, i, h, he => by
    rw [det, dsum_two (k := i) h]
    · have hm : mnr M (i + 1) = mnr M i := funext fun r => funext fun c => by
        unfold mnr
        by_cases h1 : r < i
        · rw [if_pos (by omega), if_pos h1]
        · by_cases h2 : r = i
          · subst h2; rw [if_pos (by omega), if_neg (by omega), he]
          · rw [if_neg (by omega), if_neg (by omega)]
      rw [hm, ← he, sgd_succ, Int.neg_mul, Int.neg_mul]
      omega
    · intro j hj h1 h2
      have hz : det n (mnr M j) = 0 := by
        by_cases hlt : i < j
        · refine det_adj (mnr M j) (i := i) (by omega) (funext fun c => ?_)
          unfold mnr
          rw [if_pos hlt, if_pos (by omega), he]
        · obtain ⟨i', rfl⟩ : ∃ i', i = i' + 1 := ⟨i - 1, by omega⟩
          refine det_adj (mnr M j) (i := i') (by omega) (funext fun c => ?_)
          unfold mnr
          rw [if_neg (by omega), if_neg (by omega), he]
      rw [hz, Int.mul_zero]
/-- Two rows beside each other change places. -/
theorem det_swap1 {n : Nat} (M : Mx) {i : Nat} (h : i + 1 < n) (u v : Nat → Int) : det n (updR (updR M i u) (i + 1) v) = - det n (updR (updR M i v) (i + 1) u) := by
  have hne : i ≠ i + 1 := by omega
  have z := fun w : Nat → Int => det_adj (n := n) (updR (updR M i w) (i + 1) w) h (by rw [updR_at, updR_ne _ _ hne, updR_at])
  have s := z (fun c => u c + 1 * v c)
  rw [det_lin _ u v 1 h, updR_comm _ hne, updR_comm _ hne, det_lin _ u v 1 (by omega), det_lin _ u v 1 (by omega)] at s
  have zu := z u
  have zv := z v
  rw [updR_comm _ hne] at zu zv
  rw [updR_comm _ hne, updR_comm (M) hne v u]
  omega
theorem det_eq : ∀ {n : Nat} (k : Nat) (M : Mx) {i : Nat}, i + k + 1 < n → M i = M (i + k + 1) → det n M = 0
  | n, 0, M, i, h, he => det_adj M h he
  | n, k + 1, M, i, h, he => by
    have hne : i + k + 1 ≠ i + (k + 1) + 1 := by omega
    have e0 : M = updR (updR M (i + k + 1) (M (i + k + 1))) (i + k + 1 + 1) (M (i + k + 1 + 1)) := by rw [updR_self, updR_self]
    rw [e0, det_swap1 M (i := i + k + 1) (by omega)]
    have := det_eq k (updR (updR M (i + k + 1) (M (i + k + 1 + 1))) (i + k + 1 + 1) (M (i + k + 1))) (i := i) (n := n) (by omega) (by
      rw [updR_ne _ _ (show i ≠ i + k + 1 + 1 by omega), updR_ne _ _ (show i ≠ i + k + 1 by omega), updR_ne _ _ (show i + k + 1 ≠ i + k + 1 + 1 by omega), updR_at]
      exact he)
    rw [this]; rfl
/-- Two equal rows. -/
theorem det_same {n : Nat} (M : Mx) {i j : Nat} (hi : i < n) (hj : j < n) (hne : i ≠ j) (he : M i = M j) : det n M = 0 := by
  by_cases h : i < j
  · have e : j = i + (j - i - 1) + 1 := by omega
    rw [e] at he
    exact det_eq (j - i - 1) M (by omega) he
  · have e : i = j + (i - j - 1) + 1 := by omega
    rw [e] at he
    exact det_eq (i - j - 1) M (by omega) he.symm
/-- A multiple of another row added. -/
theorem det_add {n : Nat} (M : Mx) {i j : Nat} (hi : i < n) (hj : j < n) (hne : i ≠ j) (k : Int) : det n (updR M i (fun c => M i c + k * M j c)) = det n M := by
  rw [det_lin M (M i) (M j) k hi, updR_self, det_same (updR M i (M j)) hi hj hne (by rw [updR_at, updR_ne _ _ (fun e => hne e.symm)]), Int.mul_zero, Int.add_zero]
theorem det_nil {n : Nat} (M : Mx) {i : Nat} (hi : i < n) (hz : ∀ c, M i c = 0) : det n M = 0 := by
  have := det_lin M (M i) (M i) 1 hi
  have e : (fun c => M i c + 1 * M i c) = M i := funext fun c => by rw [hz c]; rfl
  rw [e, updR_self] at this
  omega
/-- A row times a number. -/
theorem det_scale {n : Nat} (M : Mx) {i : Nat} (hi : i < n) (k : Int) : det n (updR M i (fun c => k * M i c)) = k * det n M := by
  have := det_lin M (fun _ => 0) (M i) k hi
  simp only [Int.zero_add] at this
  rw [this, updR_self, det_nil (updR M i (fun _ => 0)) hi (fun c => by rw [updR_at]), Int.zero_add]
/-- Two rows change places. -/
theorem det_swap {n : Nat} (M : Mx) {i j : Nat} (hi : i < n) (hj : j < n) (hne : i ≠ j) (u v : Nat → Int) : det n (updR (updR M i u) j v) = - det n (updR (updR M i v) j u) := by
  have z := fun w : Nat → Int => det_same (n := n) (updR (updR M i w) j w) hi hj hne (by rw [updR_at, updR_ne _ _ hne, updR_at])
  have s := z (fun c => u c + 1 * v c)
  rw [det_lin _ u v 1 hj, updR_comm _ hne, updR_comm _ hne, det_lin _ u v 1 hi, det_lin _ u v 1 hi] at s
  have zu := z u
  have zv := z v
  rw [updR_comm _ hne] at zu zv
  rw [updR_comm _ hne, updR_comm (M) hne v u]
  omega
/-- The identity. -/
def idM : Mx := fun r c => if r = c then 1 else 0
theorem mnr_id : mnr idM 0 = idM := funext fun r => funext fun c => by simp [mnr, idM]
theorem det_one : ∀ n : Nat, det n idM = 1
  | 0 => rfl
  | n + 1 => by
    rw [det, dsum_one (k := 0) (by omega) (fun i hi hne => by simp [idM, hne]), mnr_id, det_one n]
    simp [sgd, idM]
/-- One column replaced. -/
def updC (M : Mx) (k : Nat) (b : Nat → Int) : Mx := fun r c => if c = k then b r else M r c
theorem det_col : ∀ {n k : Nat} (b : Nat → Int), k < n → det n (updC idM k b) = b k
  | 0, _, _, h => by omega
  | n + 1, 0, b, _ => by
    rw [det, dsum_one (k := 0) (by omega)]
    · have e : mnr (updC idM 0 b) 0 = idM := funext fun r => funext fun c => by simp [mnr, updC, idM]
      rw [e, det_one]
      simp [sgd, updC]
    · intro i hi hne
      rw [det_nil (mnr (updC idM 0 b) i) (i := 0) (by omega) (fun c => by
        have : (0 : Nat) < i := by omega
        simp [mnr, updC, idM, this]), Int.mul_zero]
  | n + 1, k + 1, b, h => by
    rw [det, dsum_one (k := 0) (by omega)]
    · have e : mnr (updC idM (k + 1) b) 0 = updC idM k (fun r => b (r + 1)) := funext fun r => funext fun c => by simp [mnr, updC, idM]
      rw [e, det_col _ (by omega)]
      simp [sgd, updC, idM]
    · intro i hi hne
      have : updC idM (k + 1) b i 0 = 0 := by simp [updC, idM, hne]
      rw [this]; simp
end Go.Proofs.Ytoamidolomldnaa

/- Plain: determinants by the first row, and after clearing the first column. -/
namespace Go.Proofs.Ytoamidolomldnaa
set_option linter.unusedVariables false
set_option linter.unusedSimpArgs false
set_option maxHeartbeats 1000000
theorem dsum_shift (f : Nat → Int) : ∀ n, dsum f (n + 1) = f 0 + dsum (fun i => f (i + 1)) n
  | 0 => by simp [dsum]
  | n + 1 => by rw [dsum, dsum_shift f n, dsum]; omega
theorem dsum_mul (k : Int) (f : Nat → Int) : ∀ n, k * dsum f n = dsum (fun i => k * f i) n
  | 0 => by simp [dsum]
  | n + 1 => by rw [dsum, dsum, Int.mul_add, dsum_mul k f n]
theorem dsum_plus (f g : Nat → Int) : ∀ n, dsum (fun i => f i + g i) n = dsum f n + dsum g n
  | 0 => by simp [dsum]
  | n + 1 => by rw [dsum, dsum, dsum, dsum_plus f g n]; omega
theorem dsum_swap (F : Nat → Nat → Int) (m : Nat) : ∀ n, dsum (fun i => dsum (fun k => F i k) m) n = dsum (fun k => dsum (fun i => F i k) n) m
  | 0 => (dsum_zero (f := fun k => dsum (fun i => F i k) 0) (fun i hi => rfl)).symm
  | n + 1 => by
    rw [dsum, dsum_swap F m n, ← dsum_plus]
    exact dsum_congr fun k hk => rfl
/-- Without the first row and column k. -/
def mnc (M : Mx) (k : Nat) : Mx := fun r c => M (r + 1) (if c < k then c else c + 1)
theorem mnc_zero (M : Mx) : mnc M 0 = mnr M 0 := funext fun r => funext fun c => by simp [mnc, mnr]
theorem mnc_mnr (M : Mx) (i k : Nat) : mnc (mnr M (i + 1)) k = mnr (mnc M (k + 1)) i := funext fun r => funext fun c => by
  unfold mnc mnr
  have e1 : (if r + 1 < i + 1 then r + 1 else r + 1 + 1) = (if r < i then r else r + 1) + 1 := by split <;> split <;> omega
  have e2 : (if c < k then c else c + 1) + 1 = if c + 1 < k + 1 then c + 1 else c + 1 + 1 := by split <;> split <;> omega
  simp only [e1, e2]
/-- By the first row. -/
theorem det_row : ∀ (n : Nat) (M : Mx), det (n + 1) M = dsum (fun k => sgd k * M 0 k * det n (mnc M k)) (n + 1)
  | 0, M => by simp [det, dsum]
  | n + 1, M => by
    rw [det, dsum_shift, dsum_shift (fun k => sgd k * M 0 k * det (n + 1) (mnc M k)), mnc_zero]
    congr 1
    have l1 : dsum (fun i => sgd (i + 1) * M (i + 1) 0 * det (n + 1) (mnr M (i + 1))) (n + 1) = dsum (fun i => dsum (fun k => sgd (i + 1) * M (i + 1) 0 * (sgd k * M 0 (k + 1) * det n (mnr (mnc M (k + 1)) i))) (n + 1)) (n + 1) := dsum_congr fun i hi => by
      rw [det_row n (mnr M (i + 1)), dsum_mul]
      refine dsum_congr fun k hk => ?_
      rw [mnc_mnr]
      have : mnr M (i + 1) 0 k = M 0 (k + 1) := by simp [mnr]
      rw [this]
    have l2 : dsum (fun k => sgd (k + 1) * M 0 (k + 1) * det (n + 1) (mnc M (k + 1))) (n + 1) = dsum (fun k => dsum (fun i => sgd (k + 1) * M 0 (k + 1) * (sgd i * M (i + 1) 0 * det n (mnr (mnc M (k + 1)) i))) (n + 1)) (n + 1) := dsum_congr fun k hk => by
      rw [det, dsum_mul]
      refine dsum_congr fun i hi => ?_
      have : mnc M (k + 1) i 0 = M (i + 1) 0 := by simp [mnc]
      rw [this]
    rw [l1, l2, dsum_swap]
    refine dsum_congr fun k hk => dsum_congr fun i hi => ?_
    rw [sgd_succ, sgd_succ]
    generalize det n (mnr (mnc M (k + 1)) i) = d
    generalize M (i + 1) 0 = a
    generalize M 0 (k + 1) = b
    have e : sgd i * a * (sgd k * b * d) = sgd k * b * (sgd i * a * d) := by ac_rfl
    rw [Int.neg_mul, Int.neg_mul, Int.neg_mul, Int.neg_mul, e]
/-- Rows below t cleared by a multiple of row i. -/
def clr (M : Mx) (i : Nat) (w : Nat → Int) (t : Nat) : Mx := fun r => if r < t ∧ r ≠ i then fun c => M r c + w r * M i c else M r
theorem clr_zero (M : Mx) (i : Nat) (w : Nat → Int) : clr M i w 0 = M := funext fun r => by unfold clr; rw [if_neg (by omega)]
theorem det_clr {n : Nat} (M : Mx) {i : Nat} (hi : i < n) (w : Nat → Int) : ∀ t, t ≤ n → det n (clr M i w t) = det n M
  | 0, _ => by rw [clr_zero]
  | t + 1, ht => by
    rw [← det_clr M hi w t (by omega)]
    by_cases e : t = i
    · have : clr M i w (t + 1) = clr M i w t := funext fun r => by
        unfold clr
        by_cases h : r < t ∧ r ≠ i
        · rw [if_pos h, if_pos ⟨by omega, h.2⟩]
        · rw [if_neg h, if_neg (by omega)]
      rw [this]
    · have hi2 : clr M i w t i = M i := by unfold clr; rw [if_neg (by omega)]
      have ht2 : clr M i w t t = M t := by unfold clr; rw [if_neg (by omega)]
      have : clr M i w (t + 1) = updR (clr M i w t) t (fun c => clr M i w t t c + w t * clr M i w t i c) := funext fun r => by
        rw [hi2, ht2]
        unfold updR
        by_cases h : r = t
        · subst h; rw [if_pos rfl]; unfold clr; rw [if_pos ⟨by omega, e⟩]
        · rw [if_neg h]
          unfold clr
          by_cases h2 : r < t ∧ r ≠ i
          · rw [if_pos h2, if_pos ⟨by omega, h2.2⟩]
          · rw [if_neg h2, if_neg (by omega)]
      rw [this, det_add _ (by omega) hi e]
theorem dsum_cong {p : Int} {f g : Nat → Int} : ∀ {n : Nat}, (∀ i, i < n → f i % p = g i % p) → dsum f n % p = dsum g n % p
  | 0, _ => rfl
  | n + 1, h => by rw [dsum, dsum, Int.add_emod, dsum_cong (fun i hi => h i (by omega)), h n (by omega), ← Int.add_emod]
/-- After clearing the first column by row i. -/
theorem det_pivot {p : Int} {n : Nat} (M : Mx) {i : Nat} (hi : i < n + 1) {q : Int} (hq : (M i 0 * q) % p = 1 % p) :
    det (n + 1) M % p = (sgd i * M i 0 * det n (fun r c => M (if r < i then r else r + 1) (c + 1) + (- (M (if r < i then r else r + 1) 0 * q)) * M i (c + 1))) % p := by
  rw [← det_clr M hi (fun r => - (M r 0 * q)) (n + 1) (Nat.le_refl _), det]
  have hii : clr M i (fun r => - (M r 0 * q)) (n + 1) i = M i := by unfold clr; rw [if_neg (by omega)]
  have hm : det n (mnr (clr M i (fun r => - (M r 0 * q)) (n + 1)) i) = det n (fun r c => M (if r < i then r else r + 1) (c + 1) + (- (M (if r < i then r else r + 1) 0 * q)) * M i (c + 1)) := det_congr fun r c hr hc => by
    unfold mnr clr
    rw [if_pos (by split <;> omega)]
  have hz : ∀ r, r < n + 1 → r ≠ i → clr M i (fun r => - (M r 0 * q)) (n + 1) r 0 % p = 0 := fun r hr hne => by
    unfold clr
    rw [if_pos ⟨hr, hne⟩]
    have e : M r 0 + - (M r 0 * q) * M i 0 = M r 0 - M r 0 * (M i 0 * q) := by
      rw [Int.neg_mul, Int.mul_assoc, Int.mul_comm q]; rfl
    show (M r 0 + - (M r 0 * q) * M i 0) % p = 0
    rw [e, Int.sub_emod, Int.mul_emod, hq, ← Int.mul_emod, Int.mul_one, Int.sub_self]; simp
  have hs := dsum_cong (p := p) (n := n + 1) (f := fun r => sgd r * clr M i (fun r => - (M r 0 * q)) (n + 1) r 0 * det n (mnr (clr M i (fun r => - (M r 0 * q)) (n + 1)) r)) (g := fun r => if r = i then sgd i * M i 0 * det n (fun r c => M (if r < i then r else r + 1) (c + 1) + (- (M (if r < i then r else r + 1) 0 * q)) * M i (c + 1)) else 0) (fun r hr => by
    by_cases h : r = i
    · subst h
      simp only [if_true]
      rw [hm, hii]
    · simp only [if_neg h]
      have := hz r hr h
      rw [Int.mul_emod, Int.mul_emod (sgd r), this]
      simp)
  rw [hs, dsum_one (k := i) hi (fun r hr hne => if_neg hne), if_pos rfl]
end Go.Proofs.Ytoamidolomldnaa

/- Plain: steps with rows, for all choices of columns at once; Cramer's rule. -/
namespace Go.Proofs.Ytoamidolomldnaa
set_option linter.unusedVariables false
set_option linter.unusedSimpArgs false
set_option maxHeartbeats 1000000
/-- Some columns of a matrix. -/
def sel (W : Mx) (g : Nat → Nat) : Mx := fun r c => W r (g c)
theorem sel_upd (W : Mx) (i : Nat) (w : Nat → Int) (g : Nat → Nat) : sel (updR W i w) g = updR (sel W g) i (fun c => w (g c)) := funext fun r => funext fun c => by
  unfold sel updR; split <;> rfl
theorem sel_clr (W : Mx) (i : Nat) (w : Nat → Int) (t : Nat) (g : Nat → Nat) : sel (clr W i w t) g = clr (sel W g) i w t := funext fun r => funext fun c => by
  unfold sel clr; split <;> rfl
def RowEq (n w : Nat) (W W' : Mx) : Prop := ∃ s t : Int, s * t % 10007 = 1 ∧ ∀ g : Nat → Nat, (∀ c, c < n → g c < w) → det n (sel W g) * s % 10007 = det n (sel W' g) % 10007
theorem RowEq.refl (n w : Nat) (W : Mx) : RowEq n w W W := ⟨1, 1, rfl, fun g hg => by rw [Int.mul_one]⟩
theorem mul_mod_l (a b : Int) : a % 10007 * b % 10007 = a * b % 10007 := by rw [Int.mul_emod, Int.emod_emod_of_dvd _ (Int.dvd_refl _), ← Int.mul_emod]
theorem mul_mod_r (a b : Int) : a * (b % 10007) % 10007 = a * b % 10007 := by rw [Int.mul_emod, Int.emod_emod_of_dvd _ (Int.dvd_refl _), ← Int.mul_emod]
theorem RowEq.trans {n w : Nat} {W X Y : Mx} (h : RowEq n w W X) (k : RowEq n w X Y) : RowEq n w W Y := by
  obtain ⟨s, t, h1, h2⟩ := h
  obtain ⟨s', t', k1, k2⟩ := k
  refine ⟨s * s', t * t', ?_, fun g hg => ?_⟩
  · have e : s * s' * (t * t') = (s * t) * (s' * t') := by ac_rfl
    rw [e, Int.mul_emod, h1, k1]; rfl
  · rw [← k2 g hg, ← Int.mul_assoc, ← mul_mod_l, h2 g hg, mul_mod_l]
theorem RowEq.cong {n w : Nat} {W W' : Mx} (h : ∀ r c, r < n → c < w → W r c % 10007 = W' r c % 10007) : RowEq n w W W' :=
  ⟨1, 1, rfl, fun g hg => by rw [Int.mul_one]; exact det_cong fun r c hr hc => h r (g c) hr (hg c hc)⟩
theorem RowEq.clr {n w : Nat} (W : Mx) {i : Nat} (hi : i < n) (u : Nat → Int) : RowEq n w W (clr W i u n) :=
  ⟨1, 1, rfl, fun g hg => by rw [Int.mul_one, sel_clr, det_clr _ hi u n (Nat.le_refl _)]⟩
theorem RowEq.scale {n w : Nat} (W : Mx) {i : Nat} (hi : i < n) {k k' : Int} (hk : k * k' % 10007 = 1) : RowEq n w W (updR W i (fun c => k * W i c)) :=
  ⟨k, k', hk, fun g hg => by
    rw [sel_upd]
    have := det_scale (sel W g) hi k
    have e : (fun c => k * sel W g i c) = fun c => k * W i (g c) := rfl
    rw [e] at this
    rw [this, Int.mul_comm]⟩
theorem RowEq.swap {n w : Nat} (W : Mx) {i j : Nat} (hi : i < n) (hj : j < n) (hne : i ≠ j) : RowEq n w W (updR (updR W i (W j)) j (W i)) :=
  ⟨-1, -1, rfl, fun g hg => by
    rw [sel_upd, sel_upd]
    have e : sel W g = updR (updR (sel W g) i (fun c => W i (g c))) j (fun c => W j (g c)) := by
      have e1 : (fun c => W i (g c)) = sel W g i := rfl
      have e2 : (fun c => W j (g c)) = sel W g j := rfl
      rw [e1, e2, updR_self, updR_self]
    have h := det_swap (sel W g) hi hj hne (fun c => W j (g c)) (fun c => W i (g c))
    rw [h, ← e]
    congr 1
    omega⟩
/-- Cramer's rule. -/
theorem RowEq.full {n : Nat} {W W' : Mx} (h : RowEq n (n + 1) W W') (hid : ∀ r c, r < n → c < n → W' r c % 10007 = idM r c % 10007) :
    ∃ s : Int, det n W * s % 10007 = 1 ∧ ∀ k, k < n → W' k n % 10007 = det n (updC W k (fun r => W r n)) * s % 10007 := by
  obtain ⟨s, t, h1, h2⟩ := h
  refine ⟨s, ?_, fun k hk => ?_⟩
  · have := h2 id (fun c hc => by show c < n + 1; omega)
    have e : ∀ X : Mx, sel X id = X := fun X => rfl
    rw [e, e, det_cong (p := 10007) (N := idM) hid, det_one] at this
    exact this
  · have := h2 (fun c => if c = k then n else c) (fun c hc => by show (if c = k then n else c) < n + 1; split <;> omega)
    have e : sel W (fun c => if c = k then n else c) = updC W k (fun r => W r n) := funext fun r => funext fun c => by
      by_cases hc : c = k
      · simp [sel, updC, hc]
      · simp [sel, updC, hc]
    rw [e] at this
    rw [this, det_cong (p := 10007) (N := updC idM k (fun r => W' r n)), det_col _ hk]
    intro r c hr hc
    by_cases hck : c = k
    · simp [sel, updC, hck]
    · simp [sel, updC, hck]; exact hid r c hr hc
theorem RowEq.sing {n w : Nat} {W W' : Mx} (h : RowEq n w W W') (hw : n ≤ w) {i : Nat} (hi : i < n) (hz : ∀ c, c < n → W' i c % 10007 = 0) : det n W % 10007 = 0 := by
  obtain ⟨s, t, h1, h2⟩ := h
  have h3 := h2 id (fun c hc => by show c < w; omega)
  have e : ∀ X : Mx, sel X id = X := fun X => rfl
  rw [e, e] at h3
  have h4 : det n W' % 10007 = det n (updR W' i (fun _ => 0)) % 10007 := det_cong fun r c hr hc => by
    unfold updR
    by_cases hr2 : r = i
    · subst hr2; rw [if_pos rfl, hz c hc]; rfl
    · rw [if_neg hr2]
  rw [h4, det_nil (updR W' i (fun _ => 0)) hi (fun c => by rw [updR_at])] at h3
  have h5 : det n W * s * t % 10007 = 0 := by rw [← mul_mod_l, h3]; simp
  rw [Int.mul_assoc, ← mul_mod_r, h1, Int.mul_one] at h5
  exact h5
end Go.Proofs.Ytoamidolomldnaa

/- Plain sums, values of coefficient functions of three variables over the box of exponents up to 3, derivatives. -/
namespace Go.Proofs.Ytoamidolomldnaa
set_option linter.unusedVariables false
set_option linter.unusedSimpArgs false
abbrev Key3 := Int × Int × Int
def sumI {α : Type} (f : α → Int) : List α → Int
  | [] => 0
  | a :: l => f a + sumI f l
theorem sumI_app {α : Type} (f : α → Int) (l r : List α) : sumI f (l ++ r) = sumI f l + sumI f r := by
  induction l with
  | nil => simp [sumI]
  | cons a l ih => simp [sumI, ih]; omega
theorem sumI_add {α : Type} (f g : α → Int) : ∀ l : List α, sumI (fun a => f a + g a) l = sumI f l + sumI g l
  | [] => rfl
  | a :: l => by simp only [sumI, sumI_add f g l]; omega
theorem sumI_mul {α : Type} (c : Int) (f : α → Int) : ∀ l : List α, sumI (fun a => c * f a) l = c * sumI f l
  | [] => by simp [sumI]
  | a :: l => by simp only [sumI, sumI_mul c f l, Int.mul_add]
theorem sumI_zero {α : Type} {f : α → Int} : ∀ {l : List α}, (∀ a ∈ l, f a = 0) → sumI f l = 0
  | [], _ => rfl
  | a :: l, h => by simp only [sumI, h a (by simp), sumI_zero (l := l) (fun b hb => h b (by simp [hb]))]; rfl
theorem sumI_congr {α : Type} {f g : α → Int} : ∀ {l : List α}, (∀ a ∈ l, f a = g a) → sumI f l = sumI g l
  | [], _ => rfl
  | a :: l, h => by simp only [sumI, h a (by simp), sumI_congr (l := l) (fun b hb => h b (by simp [hb]))]
theorem sumI_mod {α : Type} {P : Int} {f g : α → Int} : ∀ {l : List α}, (∀ a ∈ l, f a % P = g a % P) → sumI f l % P = sumI g l % P
  | [], _ => rfl
  | a :: l, h => by
    simp only [sumI]
    rw [Int.add_emod, h a (by simp), sumI_mod (l := l) (fun b hb => h b (by simp [hb])), ← Int.add_emod]
theorem sumI_swap {α β : Type} (f : α → β → Int) : ∀ (l : List α) (r : List β), sumI (fun a => sumI (fun b => f a b) r) l = sumI (fun b => sumI (fun a => f a b) l) r
  | [], r => by simp only [sumI]; exact (sumI_zero (fun _ _ => rfl)).symm
  | a :: l, r => by
    simp only [sumI]
    rw [sumI_swap f l r, ← sumI_add]
theorem sumI_one {α : Type} [DecidableEq α] (e : α) (v : Int) : ∀ {l : List α}, l.Nodup → e ∈ l → sumI (fun k => if k = e then v else 0) l = v
  | a :: l, hn, he => by
    obtain ⟨h1, h2⟩ := List.nodup_cons.1 hn
    simp only [sumI]
    by_cases h : a = e
    · subst h
      rw [if_pos rfl, sumI_zero (fun b hb => if_neg (fun hh => h1 (by rw [← hh]; exact hb)))]; omega
    · have hel : e ∈ l := by
        rcases List.mem_cons.1 he with he | he
        · exact (h he.symm).elim
        · exact he
      rw [if_neg h, sumI_one e v h2 hel]; omega
def r4 : List Int := [0, 1, 2, 3]
def box : List Key3 := r4.flatMap fun i => r4.flatMap fun j => r4.map fun k => (i, j, k)
theorem box_nd : box.Nodup := by decide
theorem mem_box {k : Key3} : k ∈ box ↔ 0 ≤ k.1 ∧ k.1 ≤ 3 ∧ 0 ≤ k.2.1 ∧ k.2.1 ≤ 3 ∧ 0 ≤ k.2.2 ∧ k.2.2 ≤ 3 := by
  obtain ⟨a, b, c⟩ := k
  have h4 : ∀ x : Int, x ∈ r4 ↔ 0 ≤ x ∧ x ≤ 3 := fun x => by simp [r4]; omega
  simp only [box, List.mem_flatMap, List.mem_map, Prod.mk.injEq]
  constructor
  · rintro ⟨i, hi, j, hj, k, hk, rfl, rfl, rfl⟩
    have := (h4 i).1 hi; have := (h4 j).1 hj; have := (h4 k).1 hk
    omega
  · rintro ⟨h1, h2, h3, h5, h6, h7⟩
    exact ⟨a, (h4 a).2 ⟨h1, h2⟩, b, (h4 b).2 ⟨h3, h5⟩, c, (h4 c).2 ⟨h6, h7⟩, rfl, rfl, rfl⟩
/-- A monomial's worth at a point; a coefficient function's value. -/
def trm (y : Nat → Int) (k : Key3) : Int := y 0 ^ k.1.toNat * (y 1 ^ k.2.1.toNat * y 2 ^ k.2.2.toNat)
def Val (y : Nat → Int) (C : Key3 → Int) : Int := sumI (fun k => C k * trm y k) box
theorem Val_add (y : Nat → Int) (C D : Key3 → Int) : Val y (fun k => C k + D k) = Val y C + Val y D := by
  unfold Val; rw [← sumI_add]; exact sumI_congr (fun k _ => Int.add_mul _ _ _)
theorem Val_mul (y : Nat → Int) (c : Int) (C : Key3 → Int) : Val y (fun k => c * C k) = c * Val y C := by
  unfold Val; rw [← sumI_mul]; exact sumI_congr (fun k _ => Int.mul_assoc _ _ _)
theorem Val_one (y : Nat → Int) (e : Key3) (v : Int) (he : e ∈ box) : Val y (fun k => if k = e then v else 0) = v * trm y e := by
  unfold Val
  rw [← sumI_one e (v * trm y e) box_nd he]
  refine sumI_congr (fun k _ => ?_)
  show (if k = e then v else 0) * trm y k = if k = e then v * trm y e else 0
  by_cases h : k = e
  · rw [if_pos h, if_pos h, h]
  · rw [if_neg h, if_neg h, Int.zero_mul]
theorem Val_mod (y : Nat → Int) {P : Int} {C D : Key3 → Int} (h : ∀ k ∈ box, C k % P = D k % P) : Val y C % P = Val y D % P := by
  unfold Val
  refine sumI_mod (fun k hk => ?_)
  rw [Int.mul_emod, h k hk, ← Int.mul_emod]
/-- The coefficients of a list of terms. -/
def coef {α : Type} (key : α → Key3) (num : α → Int) (l : List α) (k : Key3) : Int := sumI (fun a => if k = key a then num a else 0) l
theorem Val_coef {α : Type} (y : Nat → Int) (key : α → Key3) (num : α → Int) : ∀ l : List α, (∀ a ∈ l, key a ∈ box) → Val y (coef key num l) = sumI (fun a => num a * trm y (key a)) l
  | [], _ => by unfold Val coef; simp only [sumI]; exact sumI_zero (fun _ _ => by simp)
  | a :: l, h => by
    have e : coef key num (a :: l) = fun k => (if k = key a then num a else 0) + coef key num l k := rfl
    rw [e, Val_add, Val_one y (key a) (num a) (h a (by simp)), Val_coef y key num l (fun b hb => h b (by simp [hb]))]; rfl
/-- The next key by a variable; the partial derivative. -/
def inc (i : Nat) (k : Key3) : Key3 := if i = 0 then (k.1 + 1, k.2.1, k.2.2) else if i = 1 then (k.1, k.2.1 + 1, k.2.2) else (k.1, k.2.1, k.2.2 + 1)
def at3 (i : Nat) (k : Key3) : Int := if i = 0 then k.1 else if i = 1 then k.2.1 else k.2.2
def der (i : Nat) (C : Key3 → Int) (k : Key3) : Int := (at3 i k + 1) * C (inc i k)
theorem der_add (i : Nat) (C D : Key3 → Int) (k : Key3) : der i (fun k => C k + D k) k = der i C k + der i D k := by simp only [der, Int.mul_add]
theorem der_mul (i : Nat) (c : Int) (C : Key3 → Int) (k : Key3) : der i (fun k => c * C k) k = c * der i C k := by simp only [der]; rw [Int.mul_left_comm]
/-- Along a vector: the sum over the first n variables. -/
def alo (v : Nat → Int) (C : Key3 → Int) : Nat → Key3 → Int
  | 0, _ => 0
  | n + 1, k => alo v C n k + v n * der n C k
end Go.Proofs.Ytoamidolomldnaa

/- Fields: how they lie; their sizes. -/
namespace Go.Proofs.Ytoamidolomldnaa
open Go.Abs
set_option linter.unusedVariables false
set_option linter.unusedSimpArgs false
set_option maxHeartbeats 1000000
abbrev Mon := Int × List Int
def mons (p : List Mon) : List AV := p.flatMap fun m => [.int m.1, .sl m.2.length (avs m.2)]
def omons (p : List Mon) : List AV := p.flatMap fun m => [.int m.1, .own 2 m.2.length (avs m.2)]
def prt (f : List (List Mon)) : List AV := f.map fun p => .sl p.length (mons p)
def oprt (f : List (List Mon)) : List AV := f.map fun p => .own 179 p.length (omons p)
theorem mons_cons (m : Mon) (p : List Mon) : mons (m :: p) = .int m.1 :: .sl m.2.length (avs m.2) :: mons p := rfl
theorem omons_cons (m : Mon) (p : List Mon) : omons (m :: p) = .int m.1 :: .own 2 m.2.length (avs m.2) :: omons p := rfl
@[simp] theorem mons_nil : mons [] = [] := rfl
@[simp] theorem omons_nil : omons [] = [] := rfl
@[simp] theorem mons_len : ∀ p : List Mon, (mons p).length = p.length * 2
  | [] => rfl
  | m :: p => by rw [mons_cons]; simp [mons_len p]; omega
@[simp] theorem omons_len : ∀ p : List Mon, (omons p).length = p.length * 2
  | [] => rfl
  | m :: p => by rw [omons_cons]; simp [omons_len p]; omega
@[simp] theorem mons_ne {p : List Mon} : (mons p = []) = (p = []) := by cases p <;> simp [mons_cons]
@[simp] theorem prt_len (f : List (List Mon)) : (prt f).length = f.length := by simp [prt]
@[simp] theorem oprt_len (f : List (List Mon)) : (oprt f).length = f.length := by simp [oprt]
@[simp] theorem prt_ne {f : List (List Mon)} : (prt f = []) = (f = []) := by cases f <;> simp [prt]
@[simp] theorem omons_frz : ∀ p : List Mon, frzL (omons p) = mons p
  | [] => rfl
  | m :: p => by rw [omons_cons, mons_cons]; simp [frzL, frz, omons_frz p]
@[simp] theorem mons_frz : ∀ p : List Mon, frzL (mons p) = mons p
  | [] => rfl
  | m :: p => by rw [mons_cons]; simp [frzL, frz, mons_frz p]
@[simp] theorem omons_fresh : ∀ p : List Mon, freshL (omons p) = true
  | [] => rfl
  | m :: p => by rw [omons_cons]; simp [freshL, freshOK, omons_fresh p]
@[simp] theorem oprt_frz : ∀ f : List (List Mon), frzL (oprt f) = prt f
  | [] => rfl
  | p :: f => by have := oprt_frz f; simp only [oprt, prt, List.map_cons, frzL] at this ⊢; rw [this]; simp [frz]
@[simp] theorem oprt_fresh : ∀ f : List (List Mon), freshL (oprt f) = true
  | [] => rfl
  | p :: f => by have := oprt_fresh f; simp only [oprt, List.map_cons, freshL] at this ⊢; rw [this]; simp [freshOK]
theorem mons_drop : ∀ {p : List Mon} {k : Nat}, k < p.length → (mons p).drop (k * 2) = .val (.int .i64 (p[k]?.getD (0, [])).1) :: .sl (p[k]?.getD (0, [])).2.length (avs (p[k]?.getD (0, [])).2) :: mons (p.drop (k + 1))
  | m :: p, 0, _ => rfl
  | m :: p, k + 1, h => by
    have := mons_drop (p := p) (k := k) (by simpa using h)
    rw [mons_cons, show (k + 1) * 2 = k * 2 + 1 + 1 by omega]
    simpa using this
theorem prt_drop {f : List (List Mon)} {k : Nat} (h : k < f.length) : (prt f).drop k = .sl (f[k]?.getD []).length (mons (f[k]?.getD [])) :: prt (f.drop (k + 1)) := by
  rw [prt, ← List.map_drop, List.drop_eq_getElem_cons h, List.map_cons]; simp [h, prt]
/-- What is left behind a list. -/
def szG {α : Type} (g : Int → α → Int) : Int → List α → Int
  | left, [] => left
  | left, a :: l => if g left a < 0 then -1 else szG g (g left a) l
def szA {α : Type} (g : Int → α → Int) (left : Int) (l : List α) : Int := if left - l.length < 0 then -1 else szG g (left - l.length) l
def sumC {α : Type} (c : α → Nat) : List α → Nat
  | [] => 0
  | a :: l => c a + sumC c l
structure SzOk {α : Type} (g : Int → α → Int) (c : α → Nat) : Prop where
  lo : ∀ l a, -1 ≤ g l a
  hi : ∀ l a, 0 ≤ l → g l a ≤ l
  ok : ∀ l a, 0 ≤ l → 0 ≤ g l a → (c a : Int) ≤ l - g l a
theorem szG_lo {α : Type} {g : Int → α → Int} {c : α → Nat} (h : SzOk g c) : ∀ (l : List α) (left : Int), 0 ≤ left → -1 ≤ szG g left l ∧ szG g left l ≤ left ∧ (0 ≤ szG g left l → (sumC c l : Int) ≤ left - szG g left l)
  | [], left, h0 => by simp [szG, sumC]; omega
  | a :: l, left, h0 => by
    rw [szG]
    have h1 := h.hi left a h0
    split
    · exact ⟨by omega, by omega, by omega⟩
    · rename_i h2
      have := szG_lo h l (g left a) (by omega)
      refine ⟨this.1, by omega, fun h3 => ?_⟩
      have h4 := this.2.2 h3
      have h5 := h.ok left a h0 (by omega)
      rw [sumC]; omega
theorem szA_ok {α : Type} {g : Int → α → Int} {c : α → Nat} (h : SzOk g c) : SzOk (szA g) (fun l => l.length + sumC c l) := by
  refine ⟨fun l a => ?_, fun l a h0 => ?_, fun l a h0 h1 => ?_⟩ <;> unfold szA at * <;> split
  · omega
  · exact (szG_lo h a _ (by omega)).1
  · omega
  · have := (szG_lo h a (l - a.length) (by omega)).2.1; omega
  · rename_i h2; rw [if_pos h2] at h1; omega
  · rename_i h2
    rw [if_neg h2] at h1
    have := (szG_lo h a (l - a.length) (by omega)).2.2 h1
    push_cast; omega
theorem szR_ok : SzOk (fun l (m : Mon) => szR l m.2.length) (fun m => m.2.length) := by
  refine ⟨fun l a => szR_ge _ _, fun l a h0 => szR_le (by omega) (by omega), fun l a h0 h1 => ?_⟩
  unfold szR at h1 ⊢
  split at h1
  · omega
  · rename_i h2; rw [if_neg h2]; omega
theorem sumC_mem {α : Type} (c : α → Nat) : ∀ {l : List α} {a : α}, a ∈ l → c a ≤ sumC c l
  | b :: l, a, h => by
    rw [sumC]
    rcases List.mem_cons.1 h with rfl | h
    · omega
    · have := sumC_mem c h; omega
def cM (m : Mon) : Nat := m.2.length
def cP (p : List Mon) : Nat := p.length + sumC cM p
def cF (f : List (List Mon)) : Nat := f.length + sumC cP f
def szMn (l : Int) (m : Mon) : Int := szR l m.2.length
def szP : Int → List Mon → Int := szA szMn
def szF : Int → List (List Mon) → Int := szA szP
theorem szMn_ok : SzOk szMn cM := szR_ok
theorem szP_ok : SzOk szP cP := szA_ok szMn_ok
theorem szF_ok : SzOk szF cF := szA_ok szP_ok
theorem szMonomial_c (m : Mon) (left : Int) (hn : m.2.length ≤ 9223372036854775807) (h0 : 0 ≤ left) (h1 : left ≤ 9223372036854775807) :
    Con Try.prog 261 [.agg [.int m.1, .sl m.2.length (avs m.2)], .int left] (.int (szMn left m)) := by
  refine con_of_vc Try.mixed ⟨5, [], [], []⟩ Try.func261 (by decide) rfl (by simp) (by decide) (by simp [freshOK, freshL, go_sem]) ?_
  rw [Try.ntmps261]
  simp [go_sem]
  refine CallVC.of (szInt64S_c _ _ left hn (by omega) h1) (by decide) ?_
  simp [go_sem]
  have := szR_ge left m.2.length
  unfold szMn
  by_cases h2 : szR left m.2.length < 0
  · simp [go_sem, h2]
    omega
  · simp [go_sem, h2]
theorem szMonomialS_c (p : List Mon) (left : Int) (hn : p.length ≤ 9223372036854775807) (hr : ∀ m ∈ p, m.2.length ≤ 9223372036854775807) (h0 : 0 ≤ left) (h1 : left ≤ 9223372036854775807) :
    Con Try.prog 237 [.sl p.length (mons p), .int left] (.int (szP left p)) := by
  refine con_of_vc Try.mixed ⟨6, [], [], []⟩ Try.func237 (by decide) rfl (by simp) (by decide) (by simp [freshOK, freshL, go_sem]) ?_
  rw [Try.ntmps237]
  simp [go_sem]
  refine ⟨by omega, fun h => ?_, fun h => ?_⟩ <;> simp at h <;> simp [go_sem]
  · unfold szP szA; rw [if_pos (by omega)]
  have e1 : szP left p = szG szMn (left - p.length) p := by unfold szP szA; rw [if_neg (by omega)]
  refine loop_inv (1 :: List.range' 4 30) (fun x : Nat × Int => [(1, .int x.2), (5, .int x.1)]) (fun x => x.1 ≤ p.length ∧ 0 ≤ x.2 ∧ x.2 ≤ left ∧ szG szMn x.2 (p.drop x.1) = szP left p) (fun x => p.length - x.1) (0, left - p.length) (by simp; omega) (by simp [go_sem]) (by simp [go_sem]) ?_
  rintro ⟨i, l⟩ ⟨hi, hl0, hl1, he⟩
  simp only at hi hl0 hl1 he
  simp [go_sem]
  refine ⟨fun h => ?_, fun h => ?_⟩ <;> simp at h
  · have hx : p[i]?.getD (0, []) ∈ p := by simp [h]
    have hd : p.drop i = p[i]?.getD (0, []) :: p.drop (i + 1) := by rw [List.drop_eq_getElem_cons h]; simp [h]
    have hm := hr _ hx
    simp [go_sem, mons_drop h]
    refine ⟨⟨h, by rintro rfl; simp at h⟩, ?_⟩
    try refine ⟨by omega, ?_⟩
    refine CallVC.of (szMonomial_c _ _ hm hl0 (by omega)) (by decide) ?_
    simp [go_sem]
    have k1 := szMn_ok.lo l (p[i]?.getD (0, []))
    have k2 := szMn_ok.hi l (p[i]?.getD (0, [])) hl0
    rw [hd, szG] at he
    refine ⟨fun h2 => ?_, fun h2 => ?_⟩ <;> simp at h2 <;> simp [go_sem]
    · rw [if_pos h2] at he; exact he
    · rw [if_neg (by omega)] at he
      refine ⟨by omega, i + 1, _, ⟨by omega, h2, by omega, he⟩, by omega, Off_reset _ _ _ (by simp), rfl, by omega⟩
  · simp [go_sem]
    rw [List.drop_eq_nil_of_le h] at he
    exact he

theorem szMonomialSS_c (p : List (List Mon)) (left : Int) (hn : p.length ≤ 9223372036854775807) (hr : ∀ m ∈ p, m.length ≤ 9223372036854775807 ∧ ∀ q ∈ m, q.2.length ≤ 9223372036854775807) (h0 : 0 ≤ left) (h1 : left ≤ 9223372036854775807) :
    Con Try.prog 184 [.sl p.length (prt p), .int left] (.int (szF left p)) := by
  refine con_of_vc Try.mixed ⟨6, [], [], []⟩ Try.func184 (by decide) rfl (by simp) (by decide) (by simp [freshOK, freshL, go_sem]) ?_
  rw [Try.ntmps184]
  simp [go_sem]
  refine ⟨by omega, fun h => ?_, fun h => ?_⟩ <;> simp at h <;> simp [go_sem]
  · unfold szF szA; rw [if_pos (by omega)]
  have e1 : szF left p = szG szP (left - p.length) p := by unfold szF szA; rw [if_neg (by omega)]
  refine loop_inv (1 :: List.range' 4 30) (fun x : Nat × Int => [(1, .int x.2), (5, .int x.1)]) (fun x => x.1 ≤ p.length ∧ 0 ≤ x.2 ∧ x.2 ≤ left ∧ szG szP x.2 (p.drop x.1) = szF left p) (fun x => p.length - x.1) (0, left - p.length) (by simp; omega) (by simp [go_sem]) (by simp [go_sem]) ?_
  rintro ⟨i, l⟩ ⟨hi, hl0, hl1, he⟩
  simp only at hi hl0 hl1 he
  simp [go_sem]
  refine ⟨fun h => ?_, fun h => ?_⟩ <;> simp at h
  · have hx : p[i]?.getD [] ∈ p := by simp [h]
    have hd : p.drop i = p[i]?.getD [] :: p.drop (i + 1) := by rw [List.drop_eq_getElem_cons h]; simp [h]
    have hm := hr _ hx
    simp [go_sem, prt_drop h]
    refine ⟨⟨h, by rintro rfl; simp at h⟩, ?_⟩
    refine CallVC.of (szMonomialS_c _ _ hm.1 hm.2 hl0 (by omega)) (by decide) ?_
    simp [go_sem]
    have k1 := szP_ok.lo l (p[i]?.getD [])
    have k2 := szP_ok.hi l (p[i]?.getD []) hl0
    rw [hd, szG] at he
    refine ⟨fun h2 => ?_, fun h2 => ?_⟩ <;> simp at h2 <;> simp [go_sem]
    · rw [if_pos h2] at he; exact he
    · rw [if_neg (by omega)] at he
      refine ⟨by omega, i + 1, _, ⟨by omega, h2, by omega, he⟩, by omega, Off_reset _ _ _ (by simp), rfl, by omega⟩
  · simp [go_sem]
    rw [List.drop_eq_nil_of_le h] at he
    exact he

/-- That a field's lengths fit. -/
def Fit (f : List (List Mon)) : Prop := f.length ≤ 9223372036854775807 ∧ ∀ p ∈ f, p.length ≤ 9223372036854775807 ∧ ∀ q ∈ p, q.2.length ≤ 9223372036854775807
theorem szField_c (z : Int) (f : List (List Mon)) (left : Int) (hf : Fit f) (h0 : 0 ≤ left) (h1 : left ≤ 9223372036854775807) :
    Con Try.prog 99 [.agg [.int z, .sl f.length (prt f)], .int left] (.int (szF left f)) := by
  refine con_of_vc Try.mixed ⟨5, [], [], []⟩ Try.func99 (by decide) rfl (by simp) (by decide) (by simp [freshOK, freshL, go_sem]) ?_
  rw [Try.ntmps99]
  simp [go_sem]
  refine CallVC.of (szMonomialSS_c f left hf.1 hf.2 h0 h1) (by decide) ?_
  simp [go_sem]
  have := szF_ok.lo left f
  by_cases h2 : szF left f < 0
  · simp [go_sem, h2]
    omega
  · simp [go_sem, h2]
end Go.Proofs.Ytoamidolomldnaa

/- Fields: copies, comparisons, marks. -/
namespace Go.Proofs.Ytoamidolomldnaa
open Go.Abs
set_option linter.unusedVariables false
set_option linter.unusedSimpArgs false
set_option maxHeartbeats 1000000
theorem toMonomial_c (m : Mon) (hl : m.2.length ≤ 1048576) :
    Con Try.prog 262 [.agg [.int m.1, .sl m.2.length (avs m.2)]] (.agg [.int m.1, .own 2 m.2.length (avs m.2)]) := by
  refine con_of_vc Try.mixed ⟨4, [], [], []⟩ Try.func262 (by decide) rfl (by simp) (by decide) (by simp [freshOK, freshL, go_sem]) ?_
  rw [Try.ntmps262]
  simp [go_sem]
  refine CallVC.of (toInt64S_c m.2 hl) (by decide) ?_
  simp [go_sem]
def zer (k : Nat) : List AV := (List.replicate k [AV.val (.int .i64 0), AV.val (.slice none 0 0)]).flatten
@[simp] theorem zer_len (k : Nat) : (zer k).length = k * 2 := by
  induction k with
  | zero => rfl
  | succ k ih => unfold zer at ih ⊢; rw [List.replicate_succ, List.flatten_cons]; simp [ih]; omega
theorem zer_succ (k : Nat) : zer (k + 1) = .val (.int .i64 0) :: .val (.slice none 0 0) :: zer k := by simp [zer, List.replicate_succ]
theorem omons_app (p q : List Mon) : omons (p ++ q) = omons p ++ omons q := by simp [omons]
theorem fill2 (p : List Mon) (i : Nat) (h : i < p.length) : ((omons (p.take i) ++ zer (p.length - i)).set (i * 2) (.int (p[i]?.getD (0, [])).1)).set (i * 2 + 1) (.own 2 (p[i]?.getD (0, [])).2.length (avs (p[i]?.getD (0, [])).2)) = omons (p.take (i + 1)) ++ zer (p.length - (i + 1)) := by
  obtain ⟨k, hk⟩ : ∃ k, p.length - i = k + 1 := ⟨p.length - i - 1, by omega⟩
  have hl : (omons (p.take i)).length = i * 2 := by simp; omega
  have e1 : i * 2 - i * 2 = 0 := by omega
  have e2 : i * 2 + 1 - i * 2 = 1 := by omega
  have e3 : p.take (i + 1) = p.take i ++ [p[i]?.getD (0, [])] := by rw [List.take_add_one]; simp [h]
  rw [show p.length - (i + 1) = k by omega, hk, zer_succ, List.set_append_right _ _ (by omega), List.set_append_right _ _ (by omega), hl, e1, e2, e3, omons_app]
  simp [omons]
theorem toMonomialS_c (p : List Mon) (hl : p.length ≤ 1048576) (hr : ∀ m ∈ p, m.2.length ≤ 1048576) :
    Con Try.prog 239 [.sl p.length (mons p)] (.own 179 p.length (omons p)) := by
  refine con_of_vc Try.mixed ⟨5, [], [], []⟩ Try.func239 (by decide) rfl (by simp) (by decide) (by simp [freshOK, freshL, go_sem]) ?_
  rw [Try.ntmps239]
  simp [go_sem]
  refine ⟨by omega, ?_⟩
  refine loop_inv (3 :: 4 :: List.range' 8 14) (fun i : Nat => [(3, .own 179 p.length (omons (p.take i) ++ zer (p.length - i))), (4, .int i)]) (fun i => i ≤ p.length) (fun i => p.length - i) 0 (by simp) (by simp [go_sem]; rfl) (by simp [go_sem]) ?_
  intro i hi
  simp [go_sem]
  refine ⟨fun h => ?_, fun h => ?_⟩ <;> simp at h
  · have hx : p[i]?.getD (0, []) ∈ p := by simp [h]
    have hm := hr _ hx
    simp [go_sem, mons_drop h]
    refine ⟨⟨h, by rintro rfl; simp at h⟩, ?_⟩
    refine CallVC.of (toMonomial_c _ hm) (by decide) ?_
    simp [go_sem]
    refine ⟨h, ⟨by omega, fun _ => ?_⟩, by omega, i + 1, by omega, by omega, Off_reset _ _ _ (by simp), fill2 p i h, by omega⟩
    obtain ⟨q, hq⟩ : ∃ q, p.length - i = q + 1 := ⟨p.length - i - 1, by omega⟩
    rw [hq, zer_succ]; simp
  · simp [go_sem]
    have e : i = p.length := by omega
    subst e
    simp [zer]
theorem toMonomialSS_c (f : List (List Mon)) (hl : f.length ≤ 1048576) (hr : ∀ p ∈ f, p.length ≤ 1048576 ∧ ∀ m ∈ p, m.2.length ≤ 1048576) :
    Con Try.prog 191 [.sl f.length (prt f)] (.own 177 f.length (oprt f)) := by
  refine con_of_vc Try.mixed ⟨5, [], [], []⟩ Try.func191 (by decide) rfl (by simp) (by decide) (by simp [freshOK, freshL, go_sem]) ?_
  rw [Try.ntmps191]
  simp [go_sem]
  refine ⟨by omega, ?_⟩
  refine loop_inv (3 :: 4 :: List.range' 8 14) (fun i : Nat => [(3, .own 177 f.length (oprt (f.take i) ++ List.replicate (f.length - i) (.val (.slice none 0 0)))), (4, .int i)]) (fun i => i ≤ f.length) (fun i => f.length - i) 0 (by simp) (by simp [go_sem, oprt]) (by simp [go_sem]) ?_
  intro i hi
  simp [go_sem]
  refine ⟨fun h => ?_, fun h => ?_⟩ <;> simp at h
  · have hx : f[i]?.getD [] ∈ f := by simp [h]
    have hm := hr _ hx
    simp [go_sem, prt_drop h]
    refine ⟨⟨h, by rintro rfl; simp at h⟩, ?_⟩
    refine CallVC.of (toMonomialS_c _ hm.1 hm.2) (by decide) ?_
    simp [go_sem]
    refine ⟨h, by omega, by omega, i + 1, by omega, by omega, Off_reset _ _ _ (by simp), ?_, by omega⟩
    have e1 : ∀ k, oprt (f.take k) = (oprt f).take k := fun k => by simp [oprt, List.map_take]
    have := fill_step (oprt f) (.val (.slice none 0 0)) (.own 179 (f[i]?.getD []).length (omons (f[i]?.getD []))) i (by simpa using h) (by simp [oprt, h])
    rw [oprt_len] at this
    rw [e1, e1]
    exact this
  · simp [go_sem]
    have e : i = f.length := by omega
    subst e; simp
theorem toField_c (z : Int) (f : List (List Mon)) (hl : f.length ≤ 1048576) (hr : ∀ p ∈ f, p.length ≤ 1048576 ∧ ∀ m ∈ p, m.2.length ≤ 1048576) :
    Con Try.prog 104 [.agg [.int z, .sl f.length (prt f)]] (.agg [.int z, .own 177 f.length (oprt f)]) := by
  refine con_of_vc Try.mixed ⟨4, [], [], []⟩ Try.func104 (by decide) rfl (by simp) (by decide) (by simp [freshOK, freshL, go_sem]) ?_
  rw [Try.ntmps104]
  simp [go_sem]
  refine CallVC.of (toMonomialSS_c f hl hr) (by decide) ?_
  simp [go_sem]
theorem eqMonomial_c (m : Mon) (hl : m.2.length ≤ 9223372036854775807) :
    Con Try.prog 265 [.agg [.int m.1, .sl m.2.length (avs m.2)], .agg [.int m.1, .sl m.2.length (avs m.2)]] (.bool true) := by
  have ce := eqInt64S_c m.2 m.2 hl
  simp at ce
  refine con_of_vc Try.mixed ⟨5, [], [], []⟩ Try.func265 (by decide) rfl (by simp) (by decide) (by simp [freshOK, freshL, go_sem]) ?_
  rw [Try.ntmps265]
  simp [go_sem]
  refine CallVC.of (ce) (by decide) ?_
  simp [go_sem]
theorem eqMonomialS_c (p : List Mon) (hl : p.length ≤ 9223372036854775807) (hr : ∀ m ∈ p, m.2.length ≤ 9223372036854775807) :
    Con Try.prog 245 [.sl p.length (mons p), .sl p.length (mons p)] (.bool true) := by
  refine con_of_vc Try.mixed ⟨6, [], [], []⟩ Try.func245 (by decide) rfl (by simp) (by decide) (by simp [freshOK, freshL, go_sem]) ?_
  rw [Try.ntmps245]
  simp [go_sem]
  refine loop_inv (4 :: 5 :: List.range' 11 16) (fun i : Nat => [(5, .int i)]) (fun i => i ≤ p.length) (fun i => p.length - i) 0 (by simp) (by simp [go_sem]) (by simp [go_sem]) ?_
  intro i hi
  simp [go_sem]
  refine ⟨fun h => ?_, fun h => ?_⟩ <;> simp at h
  · have hx : p[i]?.getD (0, []) ∈ p := by simp [h]
    simp [go_sem, mons_drop h]
    refine ⟨by kernel_rfl, ⟨h, by rintro rfl; simp at h⟩, ?_⟩
    refine CallD.of (eqMonomial_c _ (hr _ hx)) (by simp [roots, rootsL]) (by decide) ?_
    simp [go_sem]
    refine ⟨by kernel_rfl, ?_⟩
    simp [go_sem]
    refine ⟨by omega, i + 1, by omega, by omega, Off_reset _ _ _ (by simp), by omega⟩
  · simp [go_sem]
theorem eqMonomialSS_c (f : List (List Mon)) (hf : Fit f) :
    Con Try.prog 197 [.sl f.length (prt f), .sl f.length (prt f)] (.bool true) := by
  have hl := hf.1
  refine con_of_vc Try.mixed ⟨6, [], [], []⟩ Try.func197 (by decide) rfl (by simp) (by decide) (by simp [freshOK, freshL, go_sem]) ?_
  rw [Try.ntmps197]
  simp [go_sem]
  refine loop_inv (4 :: 5 :: List.range' 11 16) (fun i : Nat => [(5, .int i)]) (fun i => i ≤ f.length) (fun i => f.length - i) 0 (by simp) (by simp [go_sem]) (by simp [go_sem]) ?_
  intro i hi
  simp [go_sem]
  refine ⟨fun h => ?_, fun h => ?_⟩ <;> simp at h
  · have hx : f[i]?.getD [] ∈ f := by simp [h]
    simp [go_sem, prt_drop h]
    refine ⟨by kernel_rfl, ⟨h, by rintro rfl; simp at h⟩, ?_⟩
    refine CallD.of (eqMonomialS_c _ (hf.2 _ hx).1 (hf.2 _ hx).2) (by simp [roots, rootsL]) (by decide) ?_
    simp [go_sem]
    refine ⟨by kernel_rfl, ?_⟩
    simp [go_sem]
    refine ⟨by omega, i + 1, by omega, by omega, Off_reset _ _ _ (by simp), by omega⟩
  · simp [go_sem]
theorem eqField_c (z : Int) (f : List (List Mon)) (hf : Fit f) :
    Con Try.prog 108 [.agg [.int z, .sl f.length (prt f)], .agg [.int z, .sl f.length (prt f)]] (.bool true) := by
  refine con_of_vc Try.mixed ⟨5, [], [], []⟩ Try.func108 (by decide) rfl (by simp) (by decide) (by simp [freshOK, freshL, go_sem]) ?_
  rw [Try.ntmps108]
  simp [go_sem]
  refine CallVC.of (eqMonomialSS_c f hf) (by decide) ?_
  simp [go_sem]
/-- The marks of a part, of the parts. -/
def marksS : List Mon → Int → List Mon
  | [], _ => []
  | m :: p, k => (k, marks m.2.length (k + 1)) :: marksS p (k + 1 + m.2.length)
@[simp] theorem marksS_len : ∀ (p : List Mon) (k : Int), (marksS p k).length = p.length
  | [], _ => rfl
  | m :: p, k => by simp [marksS, marksS_len p]
theorem sumC_app {α : Type} (c : α → Nat) (l r : List α) : sumC c (l ++ r) = sumC c l + sumC c r := by
  induction l with
  | nil => simp [sumC]
  | cons a l ih => simp [sumC, ih]; omega
theorem sumC_take {α : Type} (c : α → Nat) {l : List α} {i : Nat} (h : i < l.length) : sumC c (l.take (i + 1)) = sumC c (l.take i) + c l[i] := by
  rw [List.take_add_one, sumC_app]; simp [h, sumC]
theorem sumC_le {α : Type} (c : α → Nat) (l : List α) (i : Nat) : sumC c (l.take i) ≤ sumC c l := by
  have := congrArg (sumC c) (List.take_append_drop i l)
  rw [sumC_app] at this; omega
theorem marksS_snoc (p : List Mon) (m : Mon) (k : Int) : marksS (p ++ [m]) k = marksS p k ++ [(k + cP p, marks m.2.length (k + cP p + 1))] := by
  induction p generalizing k with
  | nil => simp [marksS, cP, sumC]
  | cons q p ih =>
    have e : k + 1 + (q.2.length : Int) + cP p = k + cP (q :: p) := by simp [cP, sumC, cM]; omega
    simp [marksS, ih, e]
theorem cP_take {p : List Mon} {i : Nat} (h : i < p.length) : cP (p.take (i + 1)) = cP (p.take i) + 1 + p[i].2.length := by
  unfold cP; rw [sumC_take cM h]; simp [cM]; omega
theorem cP_le (p : List Mon) (i : Nat) : cP (p.take i) ≤ cP p := by
  have := sumC_le cM p i
  unfold cP; simp; omega
def marksP : List (List Mon) → Int → List (List Mon)
  | [], _ => []
  | p :: f, k => marksS p k :: marksP f (k + cP p)
@[simp] theorem marksP_len : ∀ (f : List (List Mon)) (k : Int), (marksP f k).length = f.length
  | [], _ => rfl
  | m :: p, k => by simp [marksP, marksP_len p]
theorem marksP_snoc (f : List (List Mon)) (p : List Mon) (k : Int) : marksP (f ++ [p]) k = marksP f k ++ [marksS p (k + sumC cP f)] := by
  induction f generalizing k with
  | nil => simp [marksP, sumC]
  | cons q f ih =>
    have e : k + (cP q : Int) + sumC cP f = k + sumC cP (q :: f) := by simp [sumC]; omega
    simp [marksP, ih, e]
theorem oprt_app (f g : List (List Mon)) : oprt (f ++ g) = oprt f ++ oprt g := by simp [oprt]
end Go.Proofs.Ytoamidolomldnaa

/- Fields: the reference's test and values. -/
namespace Go.Proofs.Ytoamidolomldnaa
open Go.Abs
set_option linter.unusedVariables false
set_option linter.unusedSimpArgs false
set_option maxHeartbeats 1000000
theorem avs_at' {xs : List Int} {k : Nat} (h : k < xs.length) : (avs xs)[k]? = some (AV.val (.int .i64 (xs[k]?.getD 0))) := by simp [avs, h]
/-- The order of the dictionary. -/
def ltL : List Int → List Int → Bool
  | _, [] => false
  | [], _ :: _ => true
  | x :: xs, y :: ys => if x = y then ltL xs ys else decide (x < y)
theorem ltL_at : ∀ {a b : List Int} {i : Nat}, i < a.length → i < b.length → a.take i = b.take i → a[i]?.getD 0 ≠ b[i]?.getD 0 → ltL a b = decide (a[i]?.getD 0 < b[i]?.getD 0)
  | x :: a, y :: b, 0, _, _, _, h => by
    simp at h
    simp [ltL, h]
  | x :: a, y :: b, i + 1, h1, h2, h3, h4 => by
    simp at h3
    simp only [ltL, if_pos h3.1]
    simpa using ltL_at (a := a) (b := b) (i := i) (by simpa using h1) (by simpa using h2) h3.2 (by simpa using h4)
theorem ltL_end : ∀ {a b : List Int} {i : Nat}, a.take i = b.take i → i ≤ a.length → i ≤ b.length → (a.length ≤ i ∨ b.length ≤ i) → ltL a b = decide (a.length < b.length)
  | _, [], i, _, _, _, _ => by simp [ltL]
  | [], _ :: _, i, _, _, _, _ => by simp [ltL]
  | x :: a, y :: b, 0, _, h1, h2, h3 => by simp at h3
  | x :: a, y :: b, i + 1, h, h1, h2, h3 => by
    simp at h
    simp only [ltL, if_pos h.1]
    have := ltL_end (a := a) (b := b) (i := i) h.2 (by simpa using h1) (by simpa using h2) (by simpa using h3)
    rw [this]; simp
theorem take_ext {a b : List Int} {i : Nat} (h1 : i < a.length) (h2 : i < b.length) (h : a.take i = b.take i) (e : a[i]?.getD 0 = b[i]?.getD 0) : a.take (i + 1) = b.take (i + 1) := by
  rw [List.getElem?_eq_getElem h1, List.getElem?_eq_getElem h2] at e
  simp at e
  rw [List.take_add_one, List.take_add_one, h, List.getElem?_eq_getElem h1, List.getElem?_eq_getElem h2, e]
set_option maxRecDepth 100000 in
theorem l01Less_c (a b : List Int) (ha : a.length ≤ 9223372036854775807) (hb : b.length ≤ 9223372036854775807) : Con Try.prog 190 [.sl a.length (avs a), .sl b.length (avs b)] (.bool (ltL a b)) := by
  refine con_of_vc Try.mixed ⟨6, [], [], []⟩ Try.func190 (by decide) rfl (by simp) (by decide) (by simp [freshOK, freshL, go_sem]) ?_
  rw [Try.ntmps190]
  simp [go_sem]
  refine loop_inv (4 :: 5 :: List.range' 6 30) (fun i : Nat => [(5, .int i)]) (fun i => i ≤ a.length ∧ i ≤ b.length ∧ a.take i = b.take i) (fun i => a.length - i) 0 (by simp) (by simp [go_sem]) (by simp [go_sem]) ?_
  rintro i ⟨hi, hj, he⟩
  by_cases h1 : i < a.length
  · by_cases h2 : i < b.length
    · have h1' : (i : Int) < a.length := by omega
      have h2' : (i : Int) < b.length := by omega
      by_cases hd : a[i]?.getD 0 = b[i]?.getD 0
      · simp [go_sem, h1, h2, h1', h2', avs_drop h1, avs_drop h2, hd]
        refine ⟨by kernel_rfl, by rintro rfl; simp at h1, by rintro rfl; simp at h2, ?_⟩
        have hd2 : a[i] = b[i] := by simpa [h1, h2] using hd
        refine ⟨by kernel_rfl, ?_⟩
        simp [go_sem]
        simp [go_sem, hd2]
        refine ⟨by omega, i + 1, ⟨by omega, by omega, take_ext h1 h2 he hd⟩, by omega, Off_reset _ _ _ (by simp), by omega⟩
      · simp [go_sem, h1, h2, h1', h2', avs_drop h1, avs_drop h2, hd]
        refine ⟨by kernel_rfl, by rintro rfl; simp at h1, by rintro rfl; simp at h2, ?_⟩
        have hd2 : ¬ a[i] = b[i] := by simpa [h1, h2] using hd
        refine ⟨by kernel_rfl, ?_⟩
        simp [go_sem]
        simp [go_sem, hd2, avs_drop h1, avs_drop h2]
        refine ⟨by kernel_rfl, ⟨h1, by rintro rfl; simp at h1⟩, ⟨h2, by rintro rfl; simp at h2⟩, ?_⟩
        refine ⟨by kernel_rfl, ?_⟩
        simp [go_sem]
        rw [ltL_at h1 h2 he hd]
    · have h2' : ¬ (i : Int) < b.length := by omega
      simp [go_sem, h1, h2, h2']
      rw [ltL_end he hi hj (.inr (by omega))]
  · simp [go_sem, h1]
    rw [ltL_end he hi hj (.inl (by omega))]
def degL : List Int → Int → Int
  | [], s => s
  | x :: xs, s => if x < 0 ∨ 100 < x then 1000 else degL xs (s + x)
set_option maxRecDepth 100000 in
theorem l13Degree_c (a : List Int) (ha : a.length ≤ 1048576) : Con Try.prog 189 [.sl a.length (avs a)] (.int (degL a 0)) := by
  refine con_of_vc Try.mixed ⟨5, [], [], []⟩ Try.func189 (by decide) rfl (by simp) (by decide) (by simp [freshOK, freshL, go_sem]) ?_
  rw [Try.ntmps189]
  simp [go_sem]
  refine loop_inv (2 :: 3 :: 4 :: List.range' 5 24) (fun x : Nat × Int => [(3, .int x.2), (4, .int x.1)]) (fun x => x.1 ≤ a.length ∧ 0 ≤ x.2 ∧ x.2 ≤ 100 * x.1 ∧ degL (a.drop x.1) x.2 = degL a 0) (fun x => a.length - x.1) (0, 0) (by simp) (by simp [go_sem]) (by simp [go_sem]) ?_
  rintro ⟨i, s⟩ ⟨hi, hs0, hs1, he⟩
  simp only at hi hs0 hs1 he
  simp [go_sem]
  refine ⟨fun h => ?_, fun h => ?_⟩ <;> simp at h
  · have hd : a.drop i = a[i]?.getD 0 :: a.drop (i + 1) := by rw [List.drop_eq_getElem_cons h]; simp [h]
    rw [hd, degL] at he
    by_cases b1 : a[i]?.getD 0 < 0
    · simp [go_sem, avs_drop h, b1]
      rw [if_pos (.inl b1)] at he
      exact ⟨⟨h, by rintro rfl; simp at h⟩, he⟩
    · by_cases b2 : 100 < a[i]?.getD 0
      · simp [go_sem, avs_drop h, b1, b2]
        rw [if_pos (.inr b2)] at he
        exact ⟨⟨h, by rintro rfl; simp at h⟩, he⟩
      · simp [go_sem, avs_drop h, b1, b2]
        rw [if_neg (by omega)] at he
        refine ⟨⟨h, by rintro rfl; simp at h⟩, by omega, by omega, i + 1, _, ⟨by omega, by omega, by omega, he⟩, by omega, Off_reset _ _ _ (by simp), rfl, by omega⟩
  · simp [go_sem]
    rw [List.drop_eq_nil_of_le h] at he
    exact he
/-- That a monomial is one of z variables; that a part's j-th one is and stands behind the one before. -/
def monB (z : Int) (m : Mon) : Bool := decide (1 ≤ m.1 ∧ m.1 ≤ 10006) && decide ((m.2.length : Int) = z) && decide (degL m.2 0 ≤ 3)
def atB (z : Int) (p : List Mon) (j : Nat) : Bool := monB z (p[j]?.getD (0, [])) && (decide (j = 0) || ltL (p[j - 1]?.getD (0, [])).2 (p[j]?.getD (0, [])).2)
def partB (z : Int) (p : List Mon) : Bool := (List.range p.length).all (atB z p)
def fieldB (z : Int) (f : List (List Mon)) : Bool := decide (1 ≤ z ∧ z ≤ 3) && decide ((f.length : Int) = z) && f.all (partB z)
theorem partB_no {z : Int} {p : List Mon} {j : Nat} (hj : j < p.length) (h : atB z p j = false) : partB z p = false := by
  unfold partB; rw [List.all_eq_false]; exact ⟨j, by simpa using hj, by simp [h]⟩
theorem partB_yes {z : Int} {p : List Mon} (h : ∀ j, j < p.length → atB z p j = true) : partB z p = true := by
  unfold partB; rw [List.all_eq_true]; intro j hj; exact h j (by simpa using hj)
theorem fieldB_no {z : Int} {f : List (List Mon)} {i : Nat} (hi : i < f.length) (h : partB z (f[i]?.getD []) = false) : fieldB z f = false := by
  unfold fieldB
  have : f.all (partB z) = false := by rw [List.all_eq_false]; exact ⟨f[i]?.getD [], by simp [hi], by simp [h]⟩
  rw [this]; simp
/-- That a field's lengths are small. -/
def Small (f : List (List Mon)) : Prop := f.length ≤ 1048576 ∧ ∀ p ∈ f, p.length ≤ 1048576 ∧ ∀ q ∈ p, q.2.length ≤ 1048576
set_option maxRecDepth 100000 in
theorem l13Is_c (z : Int) (f : List (List Mon)) (hf : Small f) : Con Try.prog 102 [.agg [.int z, .sl f.length (prt f)]] (.bool (fieldB z f)) := by
  have fl := hf.1
  refine con_of_vc Try.mixed ⟨6, [], [], []⟩ Try.func102 (by decide) rfl (by simp) (by decide) (by simp [freshOK, freshL, go_sem]) ?_
  rw [Try.ntmps102]
  simp [go_sem]
  refine CallVC.of (l01In_c z 1 3) (by decide) ?_
  simp [go_sem]
  by_cases hz : 1 ≤ z ∧ z ≤ 3
  · by_cases hl : (f.length : Int) = z
    · have fine : fieldB z f = f.all (partB z) := by unfold fieldB; simp [hz, hl]
      simp [go_sem, hz.1, hz.2, hl]
      refine loop_inv (2 :: 3 :: 4 :: 5 :: List.range' 18 61) (fun i : Nat => [(3, .int i)]) (fun i => i ≤ f.length ∧ ∀ p ∈ f.take i, partB z p = true) (fun i => f.length - i) 0 (by simp) (by simp [go_sem]) (by simp [go_sem]) ?_
      rintro i ⟨hi, hp⟩
      simp [go_sem]
      refine ⟨fun h => ?_, fun h => ?_⟩ <;> simp at h
      · have hx : f[i]?.getD [] ∈ f := by simp [h]
        obtain ⟨hm1, hm2⟩ := hf.2 _ hx
        simp [go_sem]
        refine loop_inv (2 :: 4 :: 5 :: List.range' 25 54) (fun j : Nat => [(4, .int j)]) (fun j => j ≤ (f[i]?.getD []).length ∧ ∀ k, k < j → atB z (f[i]?.getD []) k = true) (fun j => (f[i]?.getD []).length - j) 0 (by simp) (by simp [go_sem]) (by simp [go_sem]) ?_
        rintro j ⟨hj, hq⟩
        have hif := h
        simp [go_sem, prt_drop hif]
        refine ⟨⟨hif, by rintro rfl; simp at hif⟩, ?_⟩
        generalize hP : f[i]?.getD [] = P at *
        refine ⟨fun h => ?_, fun h => ?_⟩ <;> simp at h
        · have hy : P[j]?.getD (0, []) ∈ P := by simp [h]
          have hm := hm2 _ hy
          have hno : atB z P j = false → fieldB z f = false := fun hh => fieldB_no hif (by rw [hP]; exact partB_no h hh)
          simp [go_sem, prt_drop hif, hP, mons_drop h]
          refine ⟨⟨hif, by rintro rfl; simp at hif⟩, ⟨h, by rintro rfl; simp at h⟩, ?_⟩
          generalize hM : P[j]?.getD (0, []) = m at *
          have cD := l13Degree_c m.2 hm
          refine CallVC.of (l01In_c _ _ _) (by decide) ?_
          by_cases c1 : 1 ≤ m.1 ∧ m.1 ≤ 10006
          · by_cases c2 : (m.2.length : Int) = z
            · simp [go_sem, c1.1, c1.2, c2]
              refine CallVC.of (cD) (by decide) ?_
              by_cases c3 : degL m.2 0 ≤ 3
              · have c3' : ¬ 3 < degL m.2 0 := by omega
                have hmb : monB z m = true := by unfold monB; simp [c1, c2, c3]
                simp [go_sem, c3']
                refine ⟨by kernel_rfl, ?_⟩
                by_cases j0 : 0 < j
                · have hk : j - 1 < P.length := by omega
                  have ek : (j : Int) - 1 = ((j - 1 : Nat) : Int) := by omega
                  have hyk : P[j - 1]?.getD (0, []) ∈ P := by simp [hk]
                  have hmk := hm2 _ hyk
                  have cL := l01Less_c (P[j - 1]?.getD (0, [])).2 m.2 (by omega) (by omega)
                  have hat : atB z P j = ltL (P[j - 1]?.getD (0, [])).2 m.2 := by unfold atB; rw [hM, hmb, decide_eq_false (by omega : ¬ j = 0)]; simp
                  simp [go_sem, j0, ek, prt_drop hif, hP, mons_drop hk]
                  generalize (P[j - 1]?.getD (0, [])).2 = pw0 at *
                  refine ⟨⟨hif, by rintro rfl; simp at hif⟩, by omega, ⟨hk, by rintro rfl; simp at h⟩, ?_⟩
                  generalize hL : ltL pw0 m.2 = bb at *
                  refine CallD.of (cL) (by simp [roots, rootsL]) (by decide) ?_
                  simp [go_sem]
                  cases bb with
                  | false =>
                    simp [go_sem]
                    refine ⟨by kernel_rfl, ?_⟩
                    simp [go_sem]
                    rw [hno hat]
                  | true =>
                    simp [go_sem]
                    refine ⟨by kernel_rfl, ?_⟩
                    simp [go_sem]
                    refine ⟨by omega, j + 1, ⟨by omega, fun k hk2 => ?_⟩, by omega, Off_reset _ _ _ (by simp), by omega⟩
                    by_cases e : k = j
                    · rw [e]; exact hat
                    · exact hq k (by omega)
                · simp [go_sem, j0]
                  refine ⟨by kernel_rfl, ?_⟩
                  simp [go_sem]
                  have hat : atB z P j = true := by unfold atB; rw [hM, hmb, decide_eq_true (by omega : j = 0)]; rfl
                  refine ⟨by omega, j + 1, ⟨by omega, fun k hk2 => ?_⟩, by omega, Off_reset _ _ _ (by simp), by omega⟩
                  by_cases e : k = j
                  · rw [e]; exact hat
                  · exact hq k (by omega)
              · have c3' : 3 < degL m.2 0 := by omega
                simp [go_sem, c3']
                rw [hno (by unfold atB monB; rw [hM, decide_eq_false c3]; simp)]
            · simp [go_sem, c1.1, c1.2, c2]
              rw [hno (by unfold atB monB; simp [hM, c2])]
          · have c1' : (decide (1 ≤ m.1) && decide (m.1 ≤ 10006)) = false := by simpa using c1
            rw [c1']
            simp [go_sem]
            rw [hno (by unfold atB monB; rw [hM, decide_eq_false c1]; simp)]
        · simp [go_sem]
          have hpb : partB z P = true := partB_yes (fun k hk => hq k (by omega))
          refine ⟨by omega, i + 1, ⟨by omega, take_all hif hp (by rw [← hP] at hpb; simpa [hif] using hpb)⟩, by omega, (Off.reset (by intro x hx; simp at hx ⊢; omega) (by simp) (by simp [go_sem, Off_reset])), by omega⟩
      · simp [go_sem]
        rw [List.take_of_length_le h] at hp
        rw [fine, List.all_eq_true.2 hp]
    · simp [go_sem, hz.1, hz.2, hl]
      unfold fieldB; simp [hl]
  · have hz' : (decide (1 ≤ z) && decide (z ≤ 3)) = false := by simpa using hz
    rw [hz']
    simp [go_sem]
    unfold fieldB; rw [decide_eq_false hz]; simp
end Go.Proofs.Ytoamidolomldnaa

/- Fields: the reference's values. -/
namespace Go.Proofs.Ytoamidolomldnaa
open Go.Abs
set_option linter.unusedVariables false
set_option linter.unusedSimpArgs false
set_option maxHeartbeats 1000000
theorem degL_le : ∀ {xs : List Int} {s : Int}, 0 ≤ s → degL xs s ≤ 3 → (∀ x ∈ xs, 0 ≤ x ∧ x ≤ 3) ∧ s + xs.sum ≤ 3
  | [], s, h0, h => by simpa [degL] using h
  | x :: xs, s, h0, h => by
    rw [degL] at h
    split at h
    · omega
    · rename_i hx
      have hd := degL_le (xs := xs) (s := s + x) (by omega) h
      have pos : ∀ (l : List Int), (∀ x ∈ l, 0 ≤ x ∧ x ≤ 3) → 0 ≤ l.sum := by
        intro l
        induction l with
        | nil => simp
        | cons a l ih => intro h; have h1 := h a (by simp); have h2 := ih (fun x hx => h x (by simp [hx])); simp; omega
      have hs := pos xs hd.1
      have hd2 := hd.2
      refine ⟨fun y hy => ?_, by simp; omega⟩
      rcases List.mem_cons.1 hy with rfl | hy
      · omega
      · exact hd.1 y hy
structure MonOk (z : Int) (m : Mon) : Prop where
  lo : 1 ≤ m.1
  hi : m.1 ≤ 10006
  len : (m.2.length : Int) = z
  pw : ∀ x ∈ m.2, 0 ≤ x ∧ x ≤ 3
  deg : m.2.sum ≤ 3
theorem monB_ok {z : Int} {m : Mon} (h : monB z m = true) : MonOk z m := by
  unfold monB at h
  simp only [Bool.and_eq_true, decide_eq_true_eq] at h
  have := degL_le (by omega : (0 : Int) ≤ 0) h.2
  exact ⟨h.1.1.1, h.1.1.2, h.1.2, this.1, by omega⟩
theorem MonOk.get {z : Int} {m : Mon} (h : MonOk z m) (k : Nat) : 0 ≤ m.2[k]?.getD 0 ∧ m.2[k]?.getD 0 ≤ 3 := by
  rcases Nat.lt_or_ge k m.2.length with hk | hk
  · simp [hk]; exact h.pw _ (List.getElem_mem hk)
  · simp [hk]
structure FieldOk (z : Int) (f : List (List Mon)) : Prop where
  lo : 1 ≤ z
  hi : z ≤ 3
  len : (f.length : Int) = z
  part : ∀ p ∈ f, partB z p = true
theorem fieldB_iff {z : Int} {f : List (List Mon)} : fieldB z f = true ↔ FieldOk z f := by
  unfold fieldB
  simp only [Bool.and_eq_true, decide_eq_true_eq, List.all_eq_true]
  exact ⟨fun ⟨⟨⟨a, b⟩, c⟩, d⟩ => ⟨a, b, c, d⟩, fun ⟨a, b, c, d⟩ => ⟨⟨⟨a, b⟩, c⟩, d⟩⟩
theorem partB_at {z : Int} {p : List Mon} (h : partB z p = true) {j : Nat} (hj : j < p.length) : MonOk z (p[j]?.getD (0, [])) ∧ (0 < j → ltL (p[j - 1]?.getD (0, [])).2 (p[j]?.getD (0, [])).2 = true) := by
  unfold partB at h
  have := (List.all_eq_true.1 h) j (by simpa using hj)
  unfold atB at this
  simp only [Bool.and_eq_true, Bool.or_eq_true, decide_eq_true_eq] at this
  exact ⟨monB_ok this.1, fun h0 => this.2.resolve_left (by omega)⟩
theorem partB_mem {z : Int} {p : List Mon} (h : partB z p = true) {m : Mon} (hm : m ∈ p) : MonOk z m := by
  obtain ⟨j, hj, rfl⟩ := List.getElem_of_mem hm
  have := (partB_at h hj).1
  simpa [hj] using this
/-- The value of a monomial at a point, up to the i-th variable; the sum over a part. -/
def tmF (y e : List Int) (x : Int) : Nat → Int
  | 0 => x
  | i + 1 => tmF y e x i * Go.Proofs.Ytoamidolomldnaa.pw (y[i]?.getD 0) (e[i]?.getD 0) % 10007
theorem tmF_N {y e : List Int} {x : Int} (h : isN x) : ∀ i, isN (tmF y e x i)
  | 0 => h
  | i + 1 => isN_mod _
def vsum (y : List Int) : List Mon → Int
  | [] => 0
  | m :: p => tmF y m.2 m.1 y.length + vsum y p
theorem vsum_app (y : List Int) (p q : List Mon) : vsum y (p ++ q) = vsum y p + vsum y q := by
  induction p with
  | nil => simp [vsum]
  | cons a p ih => simp [vsum, ih]; omega
theorem vsum_take {y : List Int} {p : List Mon} {i : Nat} (h : i < p.length) : vsum y (p.take (i + 1)) = vsum y (p.take i) + tmF y (p[i]?.getD (0, [])).2 (p[i]?.getD (0, [])).1 y.length := by
  rw [List.take_add_one, vsum_app]; simp [h, vsum]
theorem l13Point_c (z : Int) (y : List Int) (hl : y.length ≤ 9223372036854775807) : Con Try.prog 103 [.int z, .sl y.length (avs y)] (.bool (decide ((y.length : Int) = z) && numsB y)) := by
  refine con_of_vc Try.mixed ⟨5, [], [], []⟩ Try.func103 (by decide) rfl (by simp) (by decide) (by simp [freshOK, freshL, go_sem]) ?_
  rw [Try.ntmps103]
  simp [go_sem]
  by_cases h : (y.length : Int) = z
  · simp [go_sem, h]
    refine CallVC.of (l01Numbers_c y hl) (by decide) ?_
    simp [go_sem]
  · simp [go_sem, h]
set_option maxRecDepth 100000 in
theorem l13Value_c (p : List Mon) (y : List Int) (hy : Ns y) (hl : y.length ≤ 1000) (hp : p.length ≤ 1048576) (hm : ∀ m ∈ p, MonOk y.length m) :
    Con Try.prog 249 [.sl p.length (mons p), .sl y.length (avs y)] (.int (vsum y p % 10007)) := by
  refine con_of_vc Try.mixed ⟨9, [], [], []⟩ Try.func249 (by decide) rfl (by simp) (by decide) (by simp [freshOK, freshL, go_sem]) ?_
  rw [Try.ntmps249]
  simp [go_sem]
  refine loop_inv (5 :: 6 :: 7 :: 8 :: List.range' 9 35) (fun i : Nat => [(5, .int (vsum y (p.take i) % 10007)), (6, .int i)]) (fun i => i ≤ p.length) (fun i => p.length - i) 0 (by simp) (by simp [go_sem, vsum]) (by simp [go_sem]) ?_
  intro i hi
  simp [go_sem]
  refine ⟨fun h => ?_, fun h => ?_⟩ <;> simp at h
  · have hif := h
    have hx : p[i]?.getD (0, []) ∈ p := by simp [h]
    have ho := hm _ hx
    have hv := vsum_take (y := y) h
    simp [go_sem, mons_drop hif]
    refine ⟨⟨hif, by rintro rfl; simp at hif⟩, ?_⟩
    generalize hM : p[i]?.getD (0, []) = m at *
    have hml : m.2.length = y.length := by have := ho.len; omega
    have hx1 : isN m.1 := ⟨by have := ho.lo; omega, by have := ho.hi; omega⟩
    refine loop_inv (7 :: 8 :: List.range' 20 21) (fun k : Nat => [(7, .int (tmF y m.2 m.1 k)), (8, .int k)]) (fun k => k ≤ y.length) (fun k => y.length - k) 0 (by simp) (by simp [go_sem, tmF]) (by simp [go_sem]) ?_
    intro k hk
    simp [go_sem]
    refine ⟨fun h => ?_, fun h => ?_⟩ <;> simp at h
    · have hk2 : k < m.2.length := by omega
      have g := ho.get k
      simp [go_sem, mons_drop hif, hM, avs_drop h, avs_drop hk2]
      refine ⟨by kernel_rfl, ⟨h, by rintro rfl; simp at h⟩, ⟨hif, by rintro rfl; simp at hif⟩, ⟨hk2, fun e => by rw [e] at hk2; simp at hk2⟩, ?_⟩
      refine CallD.of (l01Pow_c _ _ (hy.get k) g.1 (by omega)) (by simp [roots, rootsL]) (by decide) ?_
      simp [go_sem]
      refine CallD.of (l01Mul_c _ _ (mul_fits (tmF_N hx1 k) (isN_mod _))) (by simp [roots, rootsL]) (by decide) ?_
      simp [go_sem]
      refine ⟨by kernel_rfl, ?_⟩
      simp [go_sem]
      refine ⟨by omega, k + 1, by omega, by omega, Off_reset _ _ _ (by simp), by simp [tmF], by omega⟩
    · have e : k = y.length := by omega
      subst e
      simp [go_sem]
      refine CallVC.of (l01Add_c _ _ (add_fits (isN_mod _) (tmF_N hx1 _))) (by decide) ?_
      simp [go_sem]
      refine ⟨by omega, i + 1, by omega, by omega, (Off.reset (by intro x hx; simp at hx ⊢; omega) (by simp) (by simp [go_sem, Off_reset])), ?_, by omega⟩
      rw [hv]
  · simp [go_sem]
    have e : i = p.length := by omega
    subst e; simp
/-- The values of a field. -/
def evL (y : List Int) (f : List (List Mon)) : List Int := f.map fun p => vsum y p % 10007
@[simp] theorem evL_len (y : List Int) (f : List (List Mon)) : (evL y f).length = f.length := by simp [evL]
theorem evL_take {y : List Int} {f : List (List Mon)} {i : Nat} (h : i < f.length) : evL y (f.take (i + 1)) = evL y (f.take i) ++ [vsum y (f[i]?.getD []) % 10007] := by
  rw [evL, evL, List.take_add_one, List.map_append, List.getElem?_eq_getElem h]; rfl
def evX (z : Int) (f : List (List Mon)) (y : List Int) : List Int := if fieldB z f = true ∧ (decide ((y.length : Int) = z) && numsB y) = true then evL y f else []
def evE (z : Int) (f : List (List Mon)) (y : List Int) : Int := if fieldB z f = true then if (decide ((y.length : Int) = z) && numsB y) = true then 0 else 2 else 1
def evR (z : Int) (f : List (List Mon)) (y : List Int) : AV := .tup [.own 2 (evX z f y).length (avs (evX z f y)), .int (evE z f y)]
end Go.Proofs.Ytoamidolomldnaa
