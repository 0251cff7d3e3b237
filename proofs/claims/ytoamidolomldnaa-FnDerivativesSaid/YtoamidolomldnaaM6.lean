/- Texts of the own layer and contracts, part 6: C0 C1 C4 C5 C6 C7 C8 C2 C9 C10 C11 C12 C13 W0 F0 F1 P0 F2 F3 F4 F5 F6 P1 P2 P3 P4 P5. -/
import Derived.Test.YtoamidolomldnaaM5
/- Rows of whole numbers as the walks see them, and small laws of numbers. -/
namespace Go.Abs
def avs (xs : List Int) : List AV := xs.map AV.int
@[simp] theorem avs_len (xs : List Int) : (avs xs).length = xs.length := by simp [avs]
@[simp] theorem avs_nil : avs [] = [] := rfl
theorem avs_snoc (xs : List Int) (x : Int) : avs (xs ++ [x]) = avs xs ++ [.val (.int .i64 x)] := by simp [avs]
theorem avs_cons (xs : List Int) (x : Int) : avs (x :: xs) = .val (.int .i64 x) :: avs xs := by simp [avs]
theorem avs_app (xs ys : List Int) : avs (xs ++ ys) = avs xs ++ avs ys := by simp [avs]
theorem avs_drop {xs : List Int} {k : Nat} (h : k < xs.length) : (avs xs).drop k = .val (.int .i64 (xs.getD k 0)) :: avs (xs.drop (k + 1)) := by
  rw [avs, ← List.map_drop, List.drop_eq_getElem_cons h, List.map_cons]; simp [h, avs]
theorem avs_get {xs : List Int} {k : Nat} (h : k < xs.length) : (avs xs)[k]? = some (.val (.int .i64 (xs.getD k 0))) := by
  simp [avs, h]
@[simp] theorem avs_inj {xs ys : List Int} : (avs xs = avs ys) = (xs = ys) := by
  apply propext
  constructor
  · intro h
    induction xs generalizing ys with
    | nil => cases ys with
      | nil => rfl
      | cons y ys => simp [avs] at h
    | cons x xs ih => cases ys with
      | nil => simp [avs] at h
      | cons y ys =>
        rw [avs_cons, avs_cons] at h
        injection h with h1 h2
        injection h1 with h1
        injection h1 with _ h1
        rw [h1, ih h2]
  · rintro rfl; rfl
theorem avs_set (xs : List Int) (k : Nat) (x : Int) : (avs xs).set k (.val (.int .i64 x)) = avs (xs.set k x) := by
  simp [avs, List.map_set]
theorem avs_repl (n : Nat) (x : Int) : List.replicate n (AV.val (.int .i64 x)) = avs (List.replicate n x) := by simp [avs]
@[simp] theorem avs_fresh (xs : List Int) : freshL (avs xs) = true := by
  induction xs with
  | nil => rfl
  | cons x xs ih => simp [avs_cons, freshL, ih, freshOK]
@[simp] theorem avs_frz (xs : List Int) : frzL (avs xs) = avs xs := by
  induction xs with
  | nil => rfl
  | cons x xs ih => simp [avs_cons, frzL, ih, frz]
@[simp] theorem avs_kl (W : List Nat) (xs : List Int) : klL W (avs xs) = avs xs := by
  induction xs with
  | nil => rfl
  | cons x xs ih => simp [avs_cons, klL, ih, kl]
@[simp] theorem avs_own (xs : List Int) : hasOwnL (avs xs) = false := by
  induction xs with
  | nil => rfl
  | cons x xs ih => simp [avs_cons, hasOwnL, ih, hasOwn]
@[simp] theorem avs_ne {xs : List Int} : (avs xs = []) = (xs = []) := by
  cases xs <;> simp [avs]
theorem tmod_up {n : Int} (h : 0 ≤ n) (m : Int) : n.tmod m = n % m := Int.tmod_eq_emod_of_nonneg h
theorem tdiv_up {n : Int} (h : 0 ≤ n) (m : Int) : n.tdiv m = n / m := Int.tdiv_eq_ediv_of_nonneg h
theorem num_law (n : Int) : (n.tmod 10007 + 10007).tmod 10007 = n % 10007 := by
  rw [Int.tmod_eq_emod, Int.tmod_eq_emod]; split <;> split <;> simp_all <;> omega
theorem num_low (n : Int) : -10007 < n.tmod 10007 ∧ n.tmod 10007 < 10007 := by
  constructor
  · rw [Int.tmod_eq_emod]; split <;> simp_all <;> omega
  · exact Int.tmod_lt_of_pos n (by omega)
end Go.Abs

/- Contracts: tall trees, and the statement's own small functions over rows of numbers. -/
namespace Go.Proofs.Ytoamidolomldnaa
open Go.Abs
set_option linter.unusedVariables false
set_option linter.unusedSimpArgs false
set_option maxHeartbeats 400000
theorem inRange_c (n a b : Int) : Con Try.prog 127 [.int n, .int a, .int b] (.bool (decide (a ≤ n) && decide (n ≤ b))) := by
  refine con_of_vc Try.mixed ⟨4, [], [], []⟩ Try.func127 (by decide) rfl (by simp) (by decide) rfl ?_
  rw [Try.ntmps127]
  simp [go_sem]
  refine ⟨fun h => ?_, fun h => ?_⟩ <;> simp at h <;> simp [go_sem, h] <;> omega
theorem l01In_c (n a b : Int) : Con Try.prog 121 [.int n, .int a, .int b] (.bool (decide (a ≤ n) && decide (n ≤ b))) := by
  refine con_of_vc Try.mixed ⟨4, [], [], []⟩ Try.func121 (by decide) rfl (by simp) (by decide) rfl ?_
  rw [Try.ntmps121]
  simp [go_sem]
  refine ⟨fun h => ?_, fun h => ?_⟩ <;> simp at h <;> simp [go_sem, h] <;> omega
def upTo (k : Nat) : List Int := (List.range k).map fun (i : Nat) => (i : Int)
theorem upTo_succ (k : Nat) : upTo (k + 1) = upTo k ++ [(k : Int)] := by simp [upTo, List.range_succ]
@[simp] theorem upTo_len (k : Nat) : (upTo k).length = k := by simp [upTo]
/-- What a tall tree's function answers. -/
def tall (n : Int) : AV := if 1 ≤ n ∧ n ≤ 8 then .tup [.own 2 n.toNat (avs (upTo n.toNat)), .int 0] else .tup [.val (.slice none 0 0), .int 2]
theorem TallTree_c (n : Int) : Con Try.prog 58 [.int n] (tall n) := by
  unfold tall
  by_cases hn : 1 ≤ n ∧ n ≤ 8
  · rw [if_pos hn]
    refine con_of_vc Try.mixed ⟨5, [], [], []⟩ Try.func58 (by decide) rfl (by simp) (by decide) (by simp [go_sem, freshOK]) ?_
    rw [Try.ntmps58]
    simp [go_sem]
    refine CallVC.of (inRange_c _ _ _) (by decide) ?_
    simp [go_sem]
    refine ⟨fun h => ?_, fun _ => ?_⟩
    · simp at h; omega
    simp [go_sem]
    refine loop_inv [12, 13, 5, 14, 15, 16, 17, 4, 18, 11] (fun k : Nat => [(4, .own 2 k (avs (upTo k))), (11, .int k)]) (fun k => (k : Int) ≤ n) (fun k => n.toNat - k) 0 (by omega) (by simp [go_sem, upTo]) (by simp [go_sem]) ?_
    intro k hk
    simp [go_sem]
    refine ⟨fun h => ?_, fun h => ?_⟩ <;> simp at h <;> simp [go_sem]
    · refine ⟨by omega, by omega, k + 1, by omega, by omega, Off_reset _ _ _ (by simp), ?_⟩
      simp [upTo_succ, avs_snoc]
    · have : n.toNat = k := by omega
      simp [this]
  · rw [if_neg hn]
    refine con_of_vc Try.mixed ⟨5, [], [], []⟩ Try.func58 (by decide) rfl (by simp) (by decide) rfl ?_
    rw [Try.ntmps58]
    simp [go_sem]
    refine CallVC.of (inRange_c _ _ _) (by decide) ?_
    simp [go_sem]
    refine ⟨fun h => ?_, fun h => ?_⟩ <;> simp at h <;> simp [go_sem]
    omega
/-- What heldInt64S answers. -/
def held (xs : List Int) (k : Int) : Int := if xs = (List.range xs.length).map (fun (i : Nat) => k + i) then k + xs.length else -1
theorem heldInt64S_c (xs : List Int) (k : Int) (h0 : 0 ≤ k) (h1 : k + xs.length ≤ 9223372036854775807) : Con Try.prog 26 [.sl xs.length (avs xs), .int k] (.int (held xs k)) := by
  refine con_of_vc Try.mixed ⟨6, [], [], []⟩ Try.func26 (by decide) rfl (by simp) (by decide) rfl ?_
  rw [Try.ntmps26]
  simp [go_sem]
  refine loop_inv (1 :: List.range' 4 20) (fun i : Nat => [(1, .int (k + i)), (5, .int i)]) (fun i => i ≤ xs.length ∧ xs.take i = (List.range i).map (fun (i : Nat) => k + i)) (fun i => xs.length - i) 0 (by simp) (by simp [go_sem]) (by simp [go_sem]) ?_
  intro i hi
  simp [go_sem]
  refine ⟨fun h => ?_, fun h => ?_⟩ <;> simp at h
  · simp [go_sem, avs_drop h]
    refine ⟨⟨h, by rintro rfl; simp at h⟩, fun h2 => ?_, fun h2 => ?_⟩ <;> simp at h2 <;> simp [go_sem]
    · unfold held
      rw [if_neg]
      intro e
      apply h2
      rw [e]; simp [h]
    · refine ⟨by omega, by omega, i + 1, ⟨by omega, ?_⟩, by omega, Off_reset _ _ _ (by simp), by omega, by omega⟩
      rw [List.take_add_one, hi.2, List.range_succ]
      rw [List.getElem?_eq_getElem h] at h2 ⊢
      simp at h2 ⊢; exact h2
  · simp [go_sem]
    have e : i = xs.length := by omega
    subst e
    have := hi.2
    rw [List.take_length] at this
    unfold held
    rw [if_pos this]
theorem eqInt64S_c (xs ys : List Int) (hx : xs.length ≤ 9223372036854775807) : Con Try.prog 21 [.sl xs.length (avs xs), .sl ys.length (avs ys)] (.bool (decide (xs = ys))) := by
  refine con_of_vc Try.mixed ⟨6, [], [], []⟩ Try.func21 (by decide) rfl (by simp) (by decide) rfl ?_
  rw [Try.ntmps21]
  simp [go_sem]
  refine ⟨fun h => ?_, fun h => ?_⟩ <;> simp at h <;> simp [go_sem]
  · rintro rfl; omega
  have hl : xs.length = ys.length := by omega
  refine loop_inv (List.range' 4 30) (fun i : Nat => [(5, .int i)]) (fun i => i ≤ xs.length ∧ xs.take i = ys.take i) (fun i => xs.length - i) 0 (by simp) (by simp [go_sem]) (by simp [go_sem]) ?_
  intro i hi
  simp [go_sem]
  refine ⟨fun h => ?_, fun h => ?_⟩ <;> simp at h
  · simp [go_sem, avs_drop h, avs_drop (show i < ys.length by omega)]
    refine ⟨by kernel_rfl, ⟨by omega, by rintro rfl; simp at h⟩, ⟨by omega, fun e => by rw [e] at hl; rw [hl] at h; simp at h⟩, by kernel_rfl, ?_⟩
    refine ⟨fun h2 => ?_, fun h2 => ?_⟩ <;> simp at h2 <;> simp [go_sem]
    · rintro rfl; exact h2 rfl
    · refine ⟨by omega, i + 1, ⟨by omega, ?_⟩, by omega, Off_reset _ _ _ (by simp), by omega⟩
      rw [List.take_add_one, List.take_add_one, hi.2]
      rw [List.getElem?_eq_getElem h, List.getElem?_eq_getElem (show i < ys.length by omega)] at h2 ⊢
      simp only [Option.getD_some] at h2
      rw [h2]
  · simp [go_sem]
    have e : i = xs.length := by omega
    subst e
    have := hi.2
    rw [List.take_length, hl, List.take_length] at this
    exact this
theorem markInt64S_c (e : TypeId) (xs : List Int) (k : Int) (h0 : 0 ≤ k) (h1 : k + xs.length ≤ 9223372036854775807) : MCon Try.prog 25 [.own e xs.length (avs xs), .int k] (.int (k + xs.length))
    [.own e xs.length (avs ((List.range xs.length).map (fun (i : Nat) => k + i))), .any] := by
  refine mcon_of_vc Try.mixed ⟨6, [], [], []⟩ [4] [0] Try.func25 (by decide) rfl rfl (by simp) (by simp) (by simp) (by decide) ?_
  rw [Try.ntmps25]
  simp [go_sem]
  refine loop_inv (0 :: 1 :: List.range' 4 20) (fun i : Nat => [(0, .own e xs.length (avs ((List.range i).map (fun (i : Nat) => k + i) ++ xs.drop i))), (1, .int (k + i)), (5, .int i)]) (fun i => i ≤ xs.length) (fun i => xs.length - i) 0 (by simp) (by simp [go_sem]) (by simp [go_sem]) ?_
  intro i hi
  simp [go_sem]
  refine ⟨fun h => ?_, fun h => ?_⟩ <;> simp at h
  · simp [go_sem]
    refine ⟨h, by omega, by omega, by omega, i + 1, by omega, by omega, Off_reset _ _ _ (by simp), ?_, by omega, by omega⟩
    rw [avs_set, avs_inj, List.range_succ, List.map_append, List.set_append_right _ _ (by simp)]
    simp
    rw [List.drop_eq_getElem_cons h, List.set_cons_zero]
  · simp [go_sem]
    have e : i = xs.length := by omega
    subst e
    simp
theorem markInt64S_0 (k : Int) : MCon Try.prog 25 [.sl 0 [], .int k] (.int k) [.any, .any] := by
  refine mcon_of_vc Try.mixed ⟨6, [], [], []⟩ [4] [] Try.func25 (by decide) rfl rfl (by simp) (by simp) (by simp) (by decide) ?_
  rw [Try.ntmps25]
  simp [go_sem]
  refine loop_inv (1 :: List.range' 4 20) (fun i : Nat => [(5, .int 0), (1, .int k)]) (fun i => True) (fun i => 0) 0 (by simp) (by simp [go_sem]) (by simp [go_sem]) ?_
  intro i hi
  simp [go_sem]
theorem held_mark (n : Nat) (k : Int) : held ((List.range n).map (fun (i : Nat) => k + i)) k = k + n := by
  unfold held
  rw [if_pos (by simp)]
  simp
end Go.Proofs.Ytoamidolomldnaa

/- Contracts: searches by a function value, the tests of numbers and tableaus. -/
namespace Go.Proofs.Ytoamidolomldnaa
open Go.Abs
set_option linter.unusedVariables false
set_option linter.unusedSimpArgs false
set_option maxHeartbeats 1000000
/-- The place of the first one, or -1. -/
def idxF {α : Type} (p : α → Bool) : List α → Int
  | [] => -1
  | x :: xs => if p x then 0 else if idxF p xs = -1 then -1 else idxF p xs + 1
theorem idxF_ge {α : Type} (p : α → Bool) : ∀ xs : List α, -1 ≤ idxF p xs ∧ idxF p xs < xs.length
  | [] => by simp [idxF]
  | x :: xs => by
    have := idxF_ge p xs
    simp only [idxF, List.length_cons]
    split
    · omega
    · split <;> omega
theorem idxF_any {α : Type} (p : α → Bool) (xs : List α) : decide (0 ≤ idxF p xs) = xs.any p := by
  induction xs with
  | nil => simp [idxF]
  | cons x xs ih =>
    have := idxF_ge p xs
    simp only [idxF, List.any_cons, ← ih]
    by_cases hp : p x = true
    · simp [hp]
    · simp only [hp]
      simp
      split
      · rename_i e; simp [e]
      · by_cases h : 0 ≤ idxF p xs <;> simp [h] <;> omega
theorem idxF_skip {α : Type} (p : α → Bool) : ∀ (xs : List α) (i : Nat), (∀ x ∈ xs.take i, p x = false) → i ≤ xs.length → (idxF p xs = if idxF p (xs.drop i) = -1 then -1 else idxF p (xs.drop i) + i)
  | xs, 0, h, hl => by simp
  | [], i + 1, h, hl => by simp at hl
  | x :: xs, i + 1, h, hl => by
    have h1 : p x = false := h x (by simp)
    have h2 := idxF_skip p xs i (fun y hy => h y (by simp [hy])) (by simpa using hl)
    simp only [idxF, h1, List.drop_succ_cons]
    have := (idxF_ge p (xs.drop i)).1
    simp
    rw [h2]
    split
    · simp
    · rename_i hne
      rw [if_neg (by omega)]
      omega
theorem IndexFuncI_c (g : FuncId) (p : Int → Bool) (xs : List Int) (hl : xs.length ≤ 9223372036854775807) (hg : ∀ x ∈ xs, Con Try.prog g [.int x] (.bool (p x))) :
    Con Try.prog 234 [.sl xs.length (avs xs), .val (.func (.func g) #[] #[])] (.int (idxF p xs)) := by
  refine con_of_vc Try.mixed ⟨6, [], [], []⟩ Try.func234 (by decide) rfl (by simp) (by decide) rfl ?_
  rw [Try.ntmps234]
  simp [go_sem]
  refine loop_inv (5 :: List.range' 8 20) (fun i : Nat => [(8, .int i)]) (fun i => i ≤ xs.length ∧ ∀ x ∈ xs.take i, p x = false) (fun i => xs.length - i) 0 (by simp) (by simp [go_sem]) (by simp [go_sem]) ?_
  rintro i ⟨hi, hf⟩
  simp [go_sem]
  have sk := idxF_skip p xs i hf hi
  refine ⟨fun h => ?_, fun h => ?_⟩ <;> simp at h
  · have hx : xs[i]?.getD 0 ∈ xs := by simp [h]
    have hd : xs.drop i = xs[i]?.getD 0 :: xs.drop (i + 1) := by rw [List.drop_eq_getElem_cons h]; simp [h]
    simp [go_sem, avs_drop h]
    refine ⟨⟨h, by rintro rfl; simp at h⟩, CallVC.of (hg _ hx) (by decide) ?_⟩
    simp [go_sem]
    refine ⟨fun h2 => ?_, fun h2 => ?_⟩ <;> simp [go_sem]
    · rw [sk, hd]; simp [idxF, h2]
    · refine ⟨by omega, i + 1, ⟨by omega, ?_⟩, by omega, Off_reset _ _ _ (by simp), by omega⟩
      intro x hx2
      rw [List.take_add_one, List.getElem?_eq_getElem h, Option.toList_some, List.mem_append, List.mem_singleton] at hx2
      rcases hx2 with hx2 | hx2
      · exact hf x hx2
      · rw [hx2]; simpa [h] using h2
  · simp [go_sem]
    rw [sk, List.drop_eq_nil_of_le h]; simp [idxF]
theorem ContainsFuncI_c (g : FuncId) (p : Int → Bool) (xs : List Int) (hl : xs.length ≤ 9223372036854775807) (hg : ∀ x ∈ xs, Con Try.prog g [.int x] (.bool (p x))) :
    Con Try.prog 175 [.sl xs.length (avs xs), .val (.func (.func g) #[] #[])] (.bool (xs.any p)) := by
  refine con_of_vc Try.mixed ⟨5, [], [], []⟩ Try.func175 (by decide) rfl (by simp) (by decide) rfl ?_
  rw [Try.ntmps175]
  simp [go_sem]
  refine CallVC.of (IndexFuncI_c g p xs hl hg) (by decide) ?_
  simp [go_sem, idxF_any]
theorem IsNumber_c (a : Int) : Con Try.prog 80 [.int a] (.bool (decide (0 ≤ a ∧ a ≤ 10006))) := by
  refine con_of_vc Try.mixed ⟨3, [], [], []⟩ Try.func80 (by decide) rfl (by simp) (by decide) rfl ?_
  rw [Try.ntmps80]
  simp [go_sem]
  refine CallVC.of (inRange_c _ _ _) (by decide) ?_
  simp [go_sem]
theorem notNumber_c (a : Int) : Con Try.prog 176 [.int a] (.bool (!decide (0 ≤ a ∧ a ≤ 10006))) := by
  refine con_of_vc Try.mixed ⟨3, [], [], []⟩ Try.func176 (by decide) rfl (by simp) (by decide) rfl ?_
  rw [Try.ntmps176]
  simp [go_sem]
  refine CallVC.of (IsNumber_c _) (by decide) ?_
  simp [go_sem]
/-- All of a row are numbers of the field. -/
def numsB (xs : List Int) : Bool := xs.all fun a => decide (0 ≤ a ∧ a ≤ 10006)
theorem areNumbers_c (xs : List Int) (hl : xs.length ≤ 9223372036854775807) : Con Try.prog 93 [.sl xs.length (avs xs)] (.bool (numsB xs)) := by
  refine con_of_vc Try.mixed ⟨3, [], [], []⟩ Try.func93 (by decide) rfl (by simp) (by decide) rfl ?_
  rw [Try.ntmps93]
  simp [go_sem]
  refine CallVC.of (ContainsFuncI_c _ _ xs hl (fun x _ => notNumber_c x)) (by decide) ?_
  simp [go_sem, numsB, List.not_any_eq_all_not]
end Go.Proofs.Ytoamidolomldnaa

/- Contracts: searches in rows of rows; tableaus: their test, copies, sizes, comparisons, marks. -/
namespace Go.Proofs.Ytoamidolomldnaa
open Go.Abs
set_option linter.unusedVariables false
set_option linter.unusedSimpArgs false
set_option maxHeartbeats 1000000
/-- Rows of rows, frozen. -/
def mat (xss : List (List Int)) : List AV := xss.map fun r => .sl r.length (avs r)
@[simp] theorem mat_len (xss : List (List Int)) : (mat xss).length = xss.length := by simp [mat]
theorem mat_drop {xss : List (List Int)} {k : Nat} (h : k < xss.length) : (mat xss).drop k = .sl (xss[k]?.getD []).length (avs (xss[k]?.getD [])) :: mat (xss.drop (k + 1)) := by
  rw [mat, ← List.map_drop, List.drop_eq_getElem_cons h, List.map_cons]; simp [h, mat]
@[simp] theorem mat_ne {xss : List (List Int)} : (mat xss = []) = (xss = []) := by cases xss <;> simp [mat]
theorem IndexFuncM_c (g : FuncId) (s : Int) (p : List Int → Bool) (xss : List (List Int)) (hl : xss.length ≤ 9223372036854775807) (hg : ∀ x ∈ xss, Con Try.prog g [.sl x.length (avs x), .fptr [.int s]] (.bool (p x))) :
    Con Try.prog 231 [.sl xss.length (mat xss), .fn g [.fptr [.int s]]] (.int (idxF p xss)) := by
  refine con_of_vc Try.mixed ⟨6, [], [], []⟩ Try.func231 (by decide) rfl (by simp) (by decide) rfl ?_
  rw [Try.ntmps231]
  simp [go_sem]
  refine loop_inv (5 :: List.range' 8 20) (fun i : Nat => [(8, .int i)]) (fun i => i ≤ xss.length ∧ ∀ x ∈ xss.take i, p x = false) (fun i => xss.length - i) 0 (by simp) (by simp [go_sem]) (by simp [go_sem]) ?_
  rintro i ⟨hi, hf⟩
  simp [go_sem]
  have sk := idxF_skip p xss i hf hi
  refine ⟨fun h => ?_, fun h => ?_⟩ <;> simp at h
  · have hx : xss[i]?.getD [] ∈ xss := by simp [h]
    have hd : xss.drop i = xss[i]?.getD [] :: xss.drop (i + 1) := by rw [List.drop_eq_getElem_cons h]; simp [h]
    simp [go_sem, mat_drop h]
    refine ⟨⟨h, by rintro rfl; simp at h⟩, CallVC.of (hg _ hx) (by decide) ?_⟩
    simp [go_sem]
    refine ⟨fun h2 => ?_, fun h2 => ?_⟩ <;> simp [go_sem]
    · rw [sk, hd]; simp [idxF, h2]
    · refine ⟨by omega, i + 1, ⟨by omega, ?_⟩, by omega, Off_reset _ _ _ (by simp), by omega⟩
      intro x hx2
      rw [List.take_add_one, List.getElem?_eq_getElem h, Option.toList_some, List.mem_append, List.mem_singleton] at hx2
      rcases hx2 with hx2 | hx2
      · exact hf x hx2
      · rw [hx2]; simpa [h] using h2
  · simp [go_sem]
    rw [sk, List.drop_eq_nil_of_le h]; simp [idxF]
theorem ContainsFuncM_c (g : FuncId) (s : Int) (p : List Int → Bool) (xss : List (List Int)) (hl : xss.length ≤ 9223372036854775807) (hg : ∀ x ∈ xss, Con Try.prog g [.sl x.length (avs x), .fptr [.int s]] (.bool (p x))) :
    Con Try.prog 164 [.sl xss.length (mat xss), .fn g [.fptr [.int s]]] (.bool (xss.any p)) := by
  refine con_of_vc Try.mixed ⟨5, [], [], []⟩ Try.func164 (by decide) rfl (by simp) (by decide) rfl ?_
  rw [Try.ntmps164]
  simp [go_sem]
  refine CallVC.of (IndexFuncM_c g s p xss hl hg) (by decide) ?_
  simp [go_sem, idxF_any]
theorem badRow_c (x : List Int) (s : Int) (hl : x.length ≤ 9223372036854775807) : Con Try.prog 165 [.sl x.length (avs x), .fptr [.int s]] (.bool (!(decide ((x.length : Int) = s) && numsB x))) := by
  refine con_of_vc Try.mixed ⟨4, [], [], []⟩ Try.func165 (by decide) rfl (by simp) (by decide) rfl ?_
  rw [Try.ntmps165]
  simp [go_sem]
  by_cases h : (x.length : Int) = s
  · simp [go_sem, h]
    refine CallVC.of (areNumbers_c x hl) (by decide) ?_
    simp [go_sem, h]
  · simp [go_sem, h]
theorem length_c (n : Nat) (cs : List AV) (hn : n ≤ 9223372036854775807) : Con Try.prog 117 [.sl n cs] (.int n) := by
  refine con_of_vc Try.mixed ⟨3, [], [], []⟩ Try.func117 (by decide) rfl (by simp) (by decide) rfl ?_
  rw [Try.ntmps117]
  simp [go_sem]
  try omega
theorem tab_c (a b : List AV) (n m : Nat) : Con Try.prog 210 [.agg [.sl n a, .sl m b]] (.int m) := by
  refine con_of_vc Try.mixed ⟨3, [], [], []⟩ Try.func210 (by decide) rfl (by simp) (by decide) rfl ?_
  rw [Try.ntmps210]
  simp [go_sem]
/-- A tableau of the field with so many stages. -/
def tabB (A : List (List Int)) (B : List Int) : Bool := decide (1 ≤ B.length ∧ B.length ≤ 8 ∧ A.length = B.length) && numsB B && A.all fun r => decide (r.length = B.length) && numsB r
theorem IsTableau_c (A : List (List Int)) (B : List Int) (hA : A.length ≤ 9223372036854775807) (hB : B.length ≤ 9223372036854775807) (hr : ∀ r ∈ A, r.length ≤ 9223372036854775807) :
    Con Try.prog 79 [.agg [.sl A.length (mat A), .sl B.length (avs B)]] (.bool (tabB A B)) := by
  refine con_of_vc Try.mixed ⟨4, [], [], []⟩ Try.func79 (by decide) rfl (by simp) (by decide) rfl ?_
  rw [Try.ntmps79]
  simp [go_sem]
  refine CallVC.of (length_c _ _ hB) (by decide) ?_
  simp [go_sem]
  have cR := inRange_c B.length 1 8
  by_cases h1 : 1 ≤ B.length ∧ B.length ≤ 8
  · have e1 : (decide ((1 : Int) ≤ B.length) && decide ((B.length : Int) ≤ 8)) = true := by simp; omega
    rw [e1] at cR
    refine CallVC.of cR (by decide) ?_
    by_cases h2 : A.length = B.length
    · have h2' : (A.length : Int) = B.length := by omega
      simp [go_sem, h2, h2']
      refine CallVC.of (areNumbers_c B hB) (by decide) ?_
      by_cases h3 : numsB B = true
      · simp [go_sem, h3]
        have cM := ContainsFuncM_c 165 B.length (fun x => !(decide ((x.length : Int) = B.length) && numsB x)) A hA (fun x hx => badRow_c x B.length (hr x hx))
        rw [h2] at cM
        refine CallVC.of cM (by decide) ?_
        simp [go_sem, tabB, h1, h2, h3]
        rw [List.any_eq_not_all_not]
        congr 2
        funext r
        simp [show ((r.length : Int) = B.length) = (r.length = B.length) from propext ⟨fun e => by omega, fun e => by omega⟩]
      · simp at h3
        simp [go_sem, h3, tabB]
    · have h2' : ¬ (A.length : Int) = B.length := by omega
      simp [go_sem, h2, h2', tabB]
  · have e1 : (decide ((1 : Int) ≤ B.length) && decide ((B.length : Int) ≤ 8)) = false := by simp; omega
    rw [e1] at cR
    refine CallVC.of cR (by decide) ?_
    have e3 : tabB A B = false := by
      unfold tabB
      have : decide (1 ≤ B.length ∧ B.length ≤ 8 ∧ A.length = B.length) = false := by simp; omega
      rw [this]; simp
    rw [e3]
    simp [go_sem]
end Go.Proofs.Ytoamidolomldnaa

/- Contracts: the statements' own functions over rows of rows and tableaus. -/
namespace Go.Proofs.Ytoamidolomldnaa
open Go.Abs
set_option linter.unusedVariables false
set_option linter.unusedSimpArgs false
set_option maxHeartbeats 1000000
def szR (left n : Int) : Int := if left - n < 0 then -1 else left - n
theorem szInt64S_c (n : Nat) (cs : List AV) (left : Int) (hn : n ≤ 9223372036854775807) (h0 : -1 ≤ left) (h1 : left ≤ 9223372036854775807) :
    Con Try.prog 72 [.sl n cs, .int left] (.int (szR left n)) := by
  refine con_of_vc Try.mixed ⟨5, [], [], []⟩ Try.func72 (by decide) rfl (by simp) (by decide) rfl ?_
  rw [Try.ntmps72]
  simp [go_sem]
  unfold szR
  refine ⟨by omega, fun h => ?_, fun h => ?_⟩ <;> simp at h <;> simp [go_sem]
  · omega
  · omega
theorem szR_ge (left n : Int) : -1 ≤ szR left n := by unfold szR; split <;> omega
theorem szR_le {left n : Int} (h : 0 ≤ n) (h1 : -1 ≤ left) : szR left n ≤ left := by unfold szR; split <;> omega
/-- What is left behind rows of rows. -/
def szRs : Int → List (List Int) → Int
  | left, [] => left
  | left, r :: rs => if szR left r.length < 0 then -1 else szRs (szR left r.length) rs
def szM (left : Int) (A : List (List Int)) : Int := if szR left A.length < 0 then -1 else szRs (szR left A.length) A
theorem szInt64SS_c (A : List (List Int)) (left : Int) (hA : A.length ≤ 9223372036854775807) (hr : ∀ r ∈ A, r.length ≤ 9223372036854775807) (h0 : 0 ≤ left) (h1 : left ≤ 9223372036854775807) :
    Con Try.prog 16 [.sl A.length (mat A), .int left] (.int (szM left A)) := by
  refine con_of_vc Try.mixed ⟨6, [], [], []⟩ Try.func16 (by decide) rfl (by simp) (by decide) rfl ?_
  rw [Try.ntmps16]
  simp [go_sem]
  refine ⟨by omega, fun h => ?_, fun h => ?_⟩ <;> simp at h <;> simp [go_sem]
  · unfold szM szR; simp; omega
  have e1 : szM left A = szRs (left - A.length) A := by unfold szM szR; rw [if_neg (by omega : ¬ left - (A.length : Int) < 0), if_neg (by omega)]
  refine loop_inv (1 :: List.range' 4 30) (fun x : Nat × Int => [(1, .int x.2), (5, .int x.1)]) (fun x => x.1 ≤ A.length ∧ 0 ≤ x.2 ∧ x.2 ≤ left ∧ szRs x.2 (A.drop x.1) = szM left A) (fun x => A.length - x.1) (0, left - A.length) (by simp; omega) (by simp [go_sem]) (by simp [go_sem]) ?_
  rintro ⟨i, l⟩ ⟨hi, hl0, hl1, he⟩
  simp only at hi hl0 hl1 he
  simp [go_sem]
  refine ⟨fun h => ?_, fun h => ?_⟩ <;> simp at h
  · have hx : A[i]?.getD [] ∈ A := by simp [h]
    have hd : A.drop i = A[i]?.getD [] :: A.drop (i + 1) := by rw [List.drop_eq_getElem_cons h]; simp [h]
    simp [go_sem, mat_drop h]
    refine ⟨⟨h, by rintro rfl; simp at h⟩, CallVC.of (szInt64S_c _ _ _ (hr _ hx) (by omega) (by omega)) (by decide) ?_⟩
    simp [go_sem]
    have k1 := szR_ge l (A[i]?.getD []).length
    have k2 := szR_le (left := l) (n := (A[i]?.getD []).length) (by omega) (by omega)
    rw [hd, szRs] at he
    refine ⟨fun h2 => ?_, fun h2 => ?_⟩ <;> simp at h2 <;> simp [go_sem]
    · rw [if_pos h2] at he; exact he
    · rw [if_neg (by omega)] at he
      refine ⟨by omega, i + 1, _, ⟨by omega, h2, by omega, he⟩, by omega, Off_reset _ _ _ (by simp), rfl, by omega⟩
  · simp [go_sem]
    rw [List.drop_eq_nil_of_le h] at he
    exact he
end Go.Proofs.Ytoamidolomldnaa

/- Contracts: the statements' own copies of rows, rows of rows and tableaus. -/
namespace Go.Proofs.Ytoamidolomldnaa
open Go.Abs
set_option linter.unusedVariables false
set_option linter.unusedSimpArgs false
set_option maxHeartbeats 1000000
theorem fill_step {α : Type} (l : List α) (d v : α) (i : Nat) (h : i < l.length) (hv : l[i]? = some v) : (l.take i ++ List.replicate (l.length - i) d).set i v = l.take (i + 1) ++ List.replicate (l.length - (i + 1)) d := by
  obtain ⟨k, hk⟩ : ∃ k, l.length - i = k + 1 := ⟨l.length - i - 1, by omega⟩
  rw [show l.length - (i + 1) = k by omega, hk, List.replicate_succ, List.set_append_right _ _ (by simp; omega), List.take_add_one, hv]
  have : i - (l.take i).length = 0 := by simp; omega
  rw [this]; simp
theorem toInt64S_c (xs : List Int) (hl : xs.length ≤ 1048576) : Con Try.prog 19 [.sl xs.length (avs xs)] (.own 2 xs.length (avs xs)) := by
  refine con_of_vc Try.mixed ⟨5, [], [], []⟩ Try.func19 (by decide) rfl (by simp) (by decide) (by simp [freshOK]) ?_
  rw [Try.ntmps19]
  simp [go_sem]
  refine ⟨by omega, ?_⟩
  refine loop_inv (List.range' 3 30) (fun i : Nat => [(3, .own 2 xs.length (avs (xs.take i ++ List.replicate (xs.length - i) 0))), (4, .int i)]) (fun i => i ≤ xs.length) (fun i => xs.length - i) 0 (by simp) (by simp [go_sem, avs_repl]) (by simp [go_sem]) ?_
  intro i hi
  simp [go_sem]
  refine ⟨fun h => ?_, fun h => ?_⟩ <;> simp at h
  · simp [go_sem, avs_drop h]
    refine ⟨⟨h, by rintro rfl; simp at h⟩, h, by omega, by omega, i + 1, by omega, by omega, Off_reset _ _ _ (by simp), ?_, by omega⟩
    rw [avs_set, avs_inj]
    exact fill_step xs 0 _ i h (by simp [h])
  · simp [go_sem]
    have e : i = xs.length := by omega
    subst e; simp
/-- Rows of rows that are ours. -/
def omat (A : List (List Int)) : List AV := A.map fun r => .own 2 r.length (avs r)
@[simp] theorem omat_len (A : List (List Int)) : (omat A).length = A.length := by simp [omat]
@[simp] theorem omat_frz (A : List (List Int)) : frzL (omat A) = mat A := by
  induction A with
  | nil => rfl
  | cons r A ih => simp only [omat, mat, List.map_cons, frzL] at ih ⊢; rw [ih]; simp [frz]
@[simp] theorem omat_fresh (A : List (List Int)) : freshL (omat A) = true := by
  induction A with
  | nil => rfl
  | cons r A ih => simp only [omat, List.map_cons, freshL] at ih ⊢; rw [ih]; simp [freshOK]
theorem toInt64SS_c (A : List (List Int)) (hl : A.length ≤ 1048576) (hr : ∀ r ∈ A, r.length ≤ 1048576) : Con Try.prog 18 [.sl A.length (mat A)] (.own 23 A.length (omat A)) := by
  refine con_of_vc Try.mixed ⟨5, [], [], []⟩ Try.func18 (by decide) rfl (by simp) (by decide) (by simp [freshOK]) ?_
  rw [Try.ntmps18]
  simp [go_sem]
  refine ⟨by omega, ?_⟩
  refine loop_inv (List.range' 3 30) (fun i : Nat => [(3, .own 23 A.length (omat (A.take i) ++ List.replicate (A.length - i) (.val (.slice none 0 0)))), (4, .int i)]) (fun i => i ≤ A.length) (fun i => A.length - i) 0 (by simp) (by simp [go_sem, omat]) (by simp [go_sem]) ?_
  intro i hi
  simp [go_sem]
  refine ⟨fun h => ?_, fun h => ?_⟩ <;> simp at h
  · have hx : A[i]?.getD [] ∈ A := by simp [h]
    simp [go_sem, mat_drop h]
    refine ⟨⟨h, by rintro rfl; simp at h⟩, CallVC.of (toInt64S_c _ (hr _ hx)) (by decide) ?_⟩
    simp [go_sem]
    refine ⟨h, by omega, by omega, i + 1, by omega, by omega, Off_reset _ _ _ (by simp), ?_, by omega⟩
    have e1 : ∀ k, omat (A.take k) = (omat A).take k := fun k => by simp [omat, List.map_take]
    have := fill_step (omat A) (.val (.slice none 0 0)) (.own 2 (A[i]?.getD []).length (avs (A[i]?.getD []))) i (by simpa using h) (by simp [omat, h])
    rw [omat_len] at this
    rw [e1, e1]
    exact this
  · simp [go_sem]
    have e : i = A.length := by omega
    subst e; simp
theorem toTableau_c (A : List (List Int)) (B : List Int) (hl : A.length ≤ 1048576) (hr : ∀ r ∈ A, r.length ≤ 1048576) (hB : B.length ≤ 1048576) :
    Con Try.prog 13 [.agg [.sl A.length (mat A), .sl B.length (avs B)]] (.agg [.own 23 A.length (omat A), .own 2 B.length (avs B)]) := by
  refine con_of_vc Try.mixed ⟨4, [], [], []⟩ Try.func13 (by decide) rfl (by simp) (by decide) (by simp [freshOK, freshL]) ?_
  rw [Try.ntmps13]
  simp [go_sem]
  refine CallVC.of (toInt64SS_c A hl hr) (by decide) ?_
  simp [go_sem]
  refine CallVC.of (toInt64S_c B hB) (by decide) ?_
  simp [go_sem]
end Go.Proofs.Ytoamidolomldnaa

/- Contracts: the statements' own comparisons and marks of rows of rows and tableaus. -/
namespace Go.Proofs.Ytoamidolomldnaa
open Go.Abs
set_option linter.unusedVariables false
set_option linter.unusedSimpArgs false
set_option maxHeartbeats 1000000
theorem eqInt64SS_c (A C : List (List Int)) (hA : A.length ≤ 9223372036854775807) (hr : ∀ r ∈ A, r.length ≤ 9223372036854775807) :
    Con Try.prog 22 [.sl A.length (mat A), .sl C.length (mat C)] (.bool (decide (A = C))) := by
  refine con_of_vc Try.mixed ⟨6, [], [], []⟩ Try.func22 (by decide) rfl (by simp) (by decide) rfl ?_
  rw [Try.ntmps22]
  simp [go_sem]
  refine ⟨fun h => ?_, fun h => ?_⟩ <;> simp at h <;> simp [go_sem]
  · rintro rfl; omega
  have hl : A.length = C.length := by omega
  refine loop_inv (List.range' 4 30) (fun i : Nat => [(5, .int i)]) (fun i => i ≤ A.length ∧ A.take i = C.take i) (fun i => A.length - i) 0 (by simp) (by simp [go_sem]) (by simp [go_sem]) ?_
  intro i hi
  simp [go_sem]
  refine ⟨fun h => ?_, fun h => ?_⟩ <;> simp at h
  · have hx : A[i]?.getD [] ∈ A := by simp [h]
    simp [go_sem, mat_drop h, mat_drop (show i < C.length by omega)]
    refine ⟨by kernel_rfl, ⟨h, by rintro rfl; simp at h⟩, ⟨by omega, fun e => by rw [e] at hl; rw [hl] at h; simp at h⟩, ?_⟩
    refine CallD.of (eqInt64S_c _ _ (hr _ hx)) (by simp [roots]) (by decide) ?_
    simp [go_sem]
    refine ⟨by kernel_rfl, ?_⟩
    refine ⟨fun h2 => ?_, fun h2 => ?_⟩ <;> simp at h2 <;> simp [go_sem]
    · rintro rfl; exact h2 rfl
    · refine ⟨by omega, i + 1, ⟨by omega, ?_⟩, by omega, Off_reset _ _ _ (by simp), by omega⟩
      rw [List.take_add_one, List.take_add_one, hi.2]
      rw [List.getElem?_eq_getElem h, List.getElem?_eq_getElem (show i < C.length by omega)] at h2 ⊢
      simp only [Option.getD_some] at h2
      rw [h2]
  · simp [go_sem]
    have e : i = A.length := by omega
    subst e
    have := hi.2
    rw [List.take_length, hl, List.take_length] at this
    exact this
theorem eqTableau_c (A C : List (List Int)) (B D : List Int) (hA : A.length ≤ 9223372036854775807) (hr : ∀ r ∈ A, r.length ≤ 9223372036854775807) (hB : B.length ≤ 9223372036854775807) :
    Con Try.prog 15 [.agg [.sl A.length (mat A), .sl B.length (avs B)], .agg [.sl C.length (mat C), .sl D.length (avs D)]] (.bool (decide (A = C) && decide (B = D))) := by
  refine con_of_vc Try.mixed ⟨6, [], [], []⟩ Try.func15 (by decide) rfl (by simp) (by decide) rfl ?_
  rw [Try.ntmps15]
  simp [go_sem]
  refine CallVC.of (eqInt64SS_c A C hA hr) (by decide) ?_
  by_cases h1 : A = C
  · simp [go_sem, h1]
    refine CallVC.of (eqInt64S_c B D hB) (by decide) ?_
    by_cases h2 : B = D <;> simp [go_sem, h2]
  · simp [go_sem, h1]
/-- The marks of a row. -/
def marks (n : Nat) (k : Int) : List Int := (List.range n).map fun (i : Nat) => k + i
@[simp] theorem marks_len (n : Nat) (k : Int) : (marks n k).length = n := by simp [marks]
def marksM : List (List Int) → Int → List (List Int)
  | [], _ => []
  | r :: rs, k => marks r.length k :: marksM rs (k + r.length)
@[simp] theorem marksM_len : ∀ (A : List (List Int)) (k : Int), (marksM A k).length = A.length
  | [], _ => rfl
  | r :: rs, k => by simp [marksM, marksM_len rs]
def sumL : List (List Int) → Nat
  | [] => 0
  | r :: rs => r.length + sumL rs
theorem sumL_app (A C : List (List Int)) : sumL (A ++ C) = sumL A + sumL C := by
  induction A with
  | nil => simp [sumL]
  | cons r A ih => simp [sumL, ih]; omega
theorem sumL_take {A : List (List Int)} {i : Nat} (h : i < A.length) : sumL (A.take (i + 1)) = sumL (A.take i) + (A[i]?.getD []).length := by
  rw [List.take_add_one, sumL_app]; simp [h, sumL]
theorem sumL_le (A : List (List Int)) (i : Nat) : sumL (A.take i) ≤ sumL A := by
  have := congrArg sumL (List.take_append_drop i A)
  rw [sumL_app] at this; omega
theorem marksM_snoc (A : List (List Int)) (r : List Int) (k : Int) : marksM (A ++ [r]) k = marksM A k ++ [marks r.length (k + sumL A)] := by
  induction A generalizing k with
  | nil => simp [marksM, sumL]
  | cons q A ih => simp [marksM, sumL, ih]; congr 1; omega
theorem marksM_take {A : List (List Int)} {i : Nat} (h : i < A.length) (k : Int) : marksM (A.take (i + 1)) k = marksM (A.take i) k ++ [marks (A[i]?.getD []).length (k + sumL (A.take i))] := by
  rw [List.take_add_one, List.getElem?_eq_getElem h, Option.toList_some, marksM_snoc]; simp
theorem markInt64SS_c (A : List (List Int)) (k : Int) (hA : A.length ≤ 1048576) (hr : ∀ r ∈ A, r.length ≤ 1048576) (h0 : 0 ≤ k) (h1 : k + sumL A ≤ 9223372036854775807) :
    MCon Try.prog 24 [.own 23 A.length (omat A), .int k] (.int (k + sumL A)) [.own 23 A.length (omat (marksM A k)), .any] := by
  refine mcon_of_vc Try.mixed ⟨6, [], [25], []⟩ [4] [0] Try.func24 (by decide) rfl rfl (by simp) (by simp) (by simp) (by decide) ?_
  rw [Try.ntmps24]
  simp [go_sem]
  refine loop_inv (0 :: 1 :: List.range' 4 20) (fun i : Nat => [(0, .own 23 A.length (omat (marksM (A.take i) k ++ A.drop i))), (1, .int (k + sumL (A.take i))), (5, .int i)]) (fun i => i ≤ A.length) (fun i => A.length - i) 0 (by simp) (by simp [go_sem, marksM, sumL]) (by simp [go_sem]) ?_
  intro i hi
  simp [go_sem]
  refine ⟨fun h => ?_, fun h => ?_⟩ <;> simp at h
  · have hr2 : A[i]?.getD [] ∈ A := by simp [h]
    generalize hM : omat (marksM (A.take i) k ++ A.drop i) = M
    have hML : M.length = A.length := by rw [← hM]; simp; omega
    have hMi : M[i]? = some (.own 2 (A[i]?.getD []).length (avs (A[i]?.getD []))) := by
      rw [← hM, omat, List.getElem?_map, List.getElem?_append_right (by simp; omega)]
      simp [h, Nat.min_eq_left hi]
    have t1 := sumL_take h
    have t2 := sumL_le A (i + 1)
    have e0 : A[i]?.getD [] = A[i] := by simp [h]
    rw [e0] at t1 hMi
    have m := markInt64S_c 2 A[i] (k + sumL (A.take i)) (by omega) (by omega)
    simp [go_sem, hMi, hML]
    refine ⟨h, _, _, m, ?_⟩
    simp [go_sem, hML, h]
    refine ⟨by omega, i + 1, by omega, by omega, Off_reset _ _ _ (by simp), ?_, by omega, by omega⟩
    rw [← hM, marksM_take h, e0, omat, omat, List.drop_eq_getElem_cons h, List.map_append, List.map_cons, List.set_append_right _ _ (by simp; omega)]
    have : i - (List.map (fun r => AV.own 2 r.length (avs r)) (marksM (A.take i) k)).length = 0 := by simp; omega
    rw [this, List.set_cons_zero]
    simp [marks]
  · simp [go_sem]
    have e : i = A.length := by omega
    subst e
    simp
end Go.Proofs.Ytoamidolomldnaa

/- Contracts of the field's own functions: remainder, power, inverse, factorials. -/
namespace Go.Proofs.Ytoamidolomldnaa
open Go.Abs
set_option linter.unusedVariables false
set_option linter.unusedSimpArgs false
set_option maxHeartbeats 1000000
/-- A power in the field. -/
def pw (a k : Int) : Int := a ^ k.toNat % 10007
theorem num_c (n : Int) (h0 : -9223372036854775808 ≤ n) (h1 : n ≤ 9223372036854775807) : Con Try.prog 83 [.int n] (.int (n % 10007)) := by
  have e := num_law n
  have b := num_low n
  refine con_of_vc Try.mixed ⟨3, [], [], []⟩ Try.func83 (by decide) rfl (by simp) (by decide) rfl ?_
  rw [Try.ntmps83]
  simp [go_sem, e]
  omega
theorem l01Mod_c (n : Int) (h0 : -9223372036854775808 ≤ n) (h1 : n ≤ 9223372036854775807) : Con Try.prog 163 [.int n] (.int (n % 10007)) := by
  have e := num_law n
  have b := num_low n
  refine con_of_vc Try.mixed ⟨3, [], [], []⟩ Try.func163 (by decide) rfl (by simp) (by decide) rfl ?_
  rw [Try.ntmps163]
  simp [go_sem, e]
  omega
/-- A whole number that fits. -/
def fits (n : Int) : Prop := -9223372036854775808 ≤ n ∧ n ≤ 9223372036854775807
theorem l01Mul_c (a b : Int) (h : fits (a * b)) : Con Try.prog 77 [.int a, .int b] (.int (a * b % 10007)) := by
  refine con_of_vc Try.mixed ⟨5, [], [], []⟩ Try.func77 (by decide) rfl (by simp) (by decide) rfl ?_
  rw [Try.ntmps77]
  simp [go_sem]
  refine ⟨h, CallVC.of (l01Mod_c _ h.1 h.2) (by decide) ?_⟩
  simp [go_sem]
theorem l01Sub_c (a b : Int) (h : fits (a - b)) : Con Try.prog 122 [.int a, .int b] (.int ((a - b) % 10007)) := by
  refine con_of_vc Try.mixed ⟨5, [], [], []⟩ Try.func122 (by decide) rfl (by simp) (by decide) rfl ?_
  rw [Try.ntmps122]
  simp [go_sem]
  refine ⟨h, CallVC.of (l01Mod_c _ h.1 h.2) (by decide) ?_⟩
  simp [go_sem]
theorem l01Add_c (a b : Int) (h : fits (a + b)) : Con Try.prog 123 [.int a, .int b] (.int ((a + b) % 10007)) := by
  refine con_of_vc Try.mixed ⟨5, [], [], []⟩ Try.func123 (by decide) rfl (by simp) (by decide) rfl ?_
  rw [Try.ntmps123]
  simp [go_sem]
  refine ⟨h, CallVC.of (l01Mod_c _ h.1 h.2) (by decide) ?_⟩
  simp [go_sem]
/-- Numbers of the field. -/
def isN (a : Int) : Prop := 0 ≤ a ∧ a < 10007
theorem isN_mod (n : Int) : isN (n % 10007) := ⟨Int.emod_nonneg _ (by omega), Int.emod_lt_of_pos _ (by omega)⟩
theorem mul_bound {a b : Int} (ha : isN a) (hb : isN b) : 0 ≤ a * b ∧ a * b ≤ 100120036 := by
  obtain ⟨a0, a1⟩ := ha
  obtain ⟨b0, b1⟩ := hb
  exact ⟨Int.mul_nonneg a0 b0, Int.le_trans (Int.mul_le_mul_of_nonneg_right (show a ≤ 10006 by omega) b0) (by omega)⟩
theorem mul_fits {a b : Int} (ha : isN a) (hb : isN b) : fits (a * b) := by
  have := mul_bound ha hb
  exact ⟨by omega, by omega⟩
theorem add_fits {a b : Int} (ha : isN a) (hb : isN b) : fits (a + b) := by
  obtain ⟨a0, a1⟩ := ha
  obtain ⟨b0, b1⟩ := hb
  exact ⟨by omega, by omega⟩
theorem sub_fits {a b : Int} (ha : isN a) (hb : isN b) : fits (a - b) := by
  obtain ⟨a0, a1⟩ := ha
  obtain ⟨b0, b1⟩ := hb
  exact ⟨by omega, by omega⟩
theorem pow_mod (a : Int) (k : Nat) : (a % 10007) ^ k % 10007 = a ^ k % 10007 := by
  induction k with
  | zero => simp
  | succ k ih => rw [Int.pow_succ, Int.pow_succ, Int.mul_emod, ih, Int.emod_emod, ← Int.mul_emod]
theorem sq_pow (a : Int) (q : Nat) : (a * a) ^ q = a ^ (2 * q) := by
  induction q with
  | zero => simp
  | succ q ih => rw [Int.pow_succ, ih, show 2 * (q + 1) = 2 * q + 1 + 1 by omega, Int.pow_succ, Int.pow_succ, Int.mul_assoc]
theorem mod_mul_r (o x : Int) : o * (x % 10007) % 10007 = o * x % 10007 := by
  rw [Int.mul_emod, Int.emod_emod, ← Int.mul_emod]
theorem mod_mul_l (o x : Int) : (x % 10007) * o % 10007 = x * o % 10007 := by
  rw [Int.mul_emod, Int.emod_emod, ← Int.mul_emod]
theorem pw_even (o a : Int) (q : Nat) : o * (a * a % 10007) ^ q % 10007 = o * a ^ (2 * q) % 10007 := by
  rw [← mod_mul_r, pow_mod, mod_mul_r, sq_pow]
theorem pw_odd (o a : Int) (q : Nat) : (o * a % 10007) * (a * a % 10007) ^ q % 10007 = o * a ^ (2 * q + 1) % 10007 := by
  rw [pw_even, mod_mul_l, Int.pow_succ, Int.mul_assoc, Int.mul_comm (a ^ (2 * q)) a]
theorem half_cast (j : Nat) : (j : Int).tdiv 2 = ((j / 2 : Nat) : Int) := by rw [tdiv_up (by omega)]; omega
theorem bit_cast (j : Nat) : (j : Int).tmod 2 = ((j % 2 : Nat) : Int) := by rw [tmod_up (by omega)]; omega
theorem pow_c (a k : Int) (ha : isN a) (hk : 0 ≤ k) (hk2 : k ≤ 9223372036854775807) : Con Try.prog 158 [.int a, .int k] (.int (pw a k)) := by
  refine con_of_vc Try.mixed ⟨6, [], [], []⟩ Try.func158 (by decide) rfl (by simp) (by decide) rfl ?_
  rw [Try.ntmps158]
  simp [go_sem]
  refine loop_inv (0 :: 1 :: List.range' 4 30) (fun x : Int × Nat × Int => [(0, .int x.1), (1, .int x.2.1), (5, .int x.2.2)])
    (fun x => isN x.1 ∧ (x.2.1 : Int) ≤ 9223372036854775807 ∧ isN x.2.2 ∧ x.2.2 * x.1 ^ x.2.1 % 10007 = a ^ k.toNat % 10007) (fun x => x.2.1) (a, k.toNat, 1) ⟨ha, by simp; omega, ⟨by simp, by simp⟩, by simp⟩ (by simp [go_sem]; omega) (by simp [go_sem]) ?_
  rintro ⟨b, j, o⟩ ⟨hb, hj, ho, he⟩
  simp only at hb hj ho he
  have f1 := mul_fits hb hb
  have f2 := mul_fits ho hb
  simp [go_sem]
  refine ⟨fun h => ?_, fun h => ?_⟩ <;> simp at h
  · simp [go_sem, half_cast, bit_cast]
    refine ⟨fun h2 => ?_, fun h2 => ?_⟩ <;> simp at h2 <;> simp [go_sem]
    · refine ⟨f2, CallVC.of (num_c _ f2.1 f2.2) (by decide) ?_⟩
      simp [go_sem]
      refine ⟨f1, CallVC.of (num_c _ f1.1 f1.2) (by decide) ?_⟩
      simp [go_sem, half_cast, bit_cast]
      refine ⟨by omega, b * b % 10007, j / 2, o * b % 10007, ⟨isN_mod _, by omega, isN_mod _, ?_⟩, by omega, Off_reset _ _ _ (by simp), rfl, by omega, rfl⟩
      rw [pw_odd, show 2 * (j / 2) + 1 = j by omega, he]
    · refine ⟨f1, CallVC.of (num_c _ f1.1 f1.2) (by decide) ?_⟩
      simp [go_sem, half_cast, bit_cast]
      refine ⟨by omega, b * b % 10007, j / 2, o, ⟨isN_mod _, by omega, ho, ?_⟩, by omega, Off_reset _ _ _ (by simp), rfl, by omega, rfl⟩
      rw [pw_even, show 2 * (j / 2) = j by omega, he]
  · simp [go_sem]
    subst h
    unfold pw
    rw [← he]
    simp
    rw [Int.emod_eq_of_lt ho.1 ho.2]
theorem l01Pow_c (a k : Int) (ha : isN a) (hk : 0 ≤ k) (hk2 : k ≤ 9223372036854775807) : Con Try.prog 162 [.int a, .int k] (.int (pw a k)) := by
  refine con_of_vc Try.mixed ⟨6, [], [], []⟩ Try.func162 (by decide) rfl (by simp) (by decide) rfl ?_
  rw [Try.ntmps162]
  simp [go_sem]
  refine loop_inv (0 :: 1 :: List.range' 4 30) (fun x : Int × Nat × Int => [(0, .int x.1), (1, .int x.2.1), (5, .int x.2.2)])
    (fun x => isN x.1 ∧ (x.2.1 : Int) ≤ 9223372036854775807 ∧ isN x.2.2 ∧ x.2.2 * x.1 ^ x.2.1 % 10007 = a ^ k.toNat % 10007) (fun x => x.2.1) (a, k.toNat, 1) ⟨ha, by simp; omega, ⟨by simp, by simp⟩, by simp⟩ (by simp [go_sem]; omega) (by simp [go_sem]) ?_
  rintro ⟨b, j, o⟩ ⟨hb, hj, ho, he⟩
  simp only at hb hj ho he
  have f1 := mul_fits hb hb
  have f2 := mul_fits ho hb
  simp [go_sem]
  refine ⟨fun h => ?_, fun h => ?_⟩ <;> simp at h
  · simp [go_sem, half_cast, bit_cast]
    refine ⟨fun h2 => ?_, fun h2 => ?_⟩ <;> simp at h2 <;> simp [go_sem]
    · refine CallVC.of (l01Mul_c _ _ f2) (by decide) ?_
      simp [go_sem]
      refine CallVC.of (l01Mul_c _ _ f1) (by decide) ?_
      simp [go_sem, half_cast, bit_cast]
      refine ⟨by omega, b * b % 10007, j / 2, o * b % 10007, ⟨isN_mod _, by omega, isN_mod _, ?_⟩, by omega, Off_reset _ _ _ (by simp), rfl, by omega, rfl⟩
      rw [pw_odd, show 2 * (j / 2) + 1 = j by omega, he]
    · refine CallVC.of (l01Mul_c _ _ f1) (by decide) ?_
      simp [go_sem, half_cast, bit_cast]
      refine ⟨by omega, b * b % 10007, j / 2, o, ⟨isN_mod _, by omega, ho, ?_⟩, by omega, Off_reset _ _ _ (by simp), rfl, by omega, rfl⟩
      rw [pw_even, show 2 * (j / 2) = j by omega, he]
  · simp [go_sem]
    subst h
    unfold pw
    rw [← he]
    simp
    rw [Int.emod_eq_of_lt ho.1 ho.2]

theorem inv_c (a : Int) (ha : isN a) : Con Try.prog 84 [.int a] (.int (pw a 10005)) := by
  refine con_of_vc Try.mixed ⟨3, [], [], []⟩ Try.func84 (by decide) rfl (by simp) (by decide) rfl ?_
  rw [Try.ntmps84]
  simp [go_sem]
  refine CallVC.of (pow_c _ _ ha (by omega) (by omega)) (by decide) ?_
  simp [go_sem]
theorem l01Inv_c (a : Int) (ha : isN a) : Con Try.prog 78 [.int a] (.int (pw a 10005)) := by
  refine con_of_vc Try.mixed ⟨3, [], [], []⟩ Try.func78 (by decide) rfl (by simp) (by decide) rfl ?_
  rw [Try.ntmps78]
  simp [go_sem]
  refine CallVC.of (l01Pow_c _ _ ha (by omega) (by omega)) (by decide) ?_
  simp [go_sem]
def fact : Nat → Int
  | 0 => 1
  | n + 1 => fact n * (n + 1)
theorem fact_pos : ∀ n, 1 ≤ fact n
  | 0 => by simp [fact]
  | n + 1 => by
    have := fact_pos n
    have : 1 * 1 ≤ fact n * (n + 1 : Int) := Int.mul_le_mul this (by omega) (by omega) (by omega)
    simp [fact]; omega
theorem fact_mono (n : Nat) : fact n ≤ fact (n + 1) := by
  have := fact_pos n
  have : fact n * 1 ≤ fact n * (n + 1 : Int) := Int.mul_le_mul_of_nonneg_left (by omega) (by omega)
  simp [fact]; omega
theorem fact_le {n m : Nat} (h : n ≤ m) : fact n ≤ fact m := by
  induction m with
  | zero => rw [show n = 0 by omega]; omega
  | succ m ih => rcases Nat.lt_or_ge n (m + 1) with hl | hl
                 · exact Int.le_trans (ih (by omega)) (fact_mono m)
                 · rw [show n = m + 1 by omega]; omega
theorem fact_20 {n : Nat} (h : n ≤ 20) : 1 ≤ fact n ∧ fact n ≤ 9223372036854775807 :=
  ⟨fact_pos n, Int.le_trans (fact_le h) (by decide)⟩
theorem factorial_c (n : Nat) (h : n ≤ 20) : Con Try.prog 200 [.int n] (.int (fact n)) := by
  refine con_of_vc Try.mixed ⟨5, [], [], []⟩ Try.func200 (by decide) rfl (by simp) (by decide) rfl ?_
  rw [Try.ntmps200]
  simp [go_sem]
  refine loop_inv (List.range' 2 20) (fun k : Nat => [(3, .int (fact (k + 1))), (4, .int (k + 2))]) (fun k => k ≤ n - 1) (fun k => n - k) 0 (by simp) (by simp [go_sem]; decide) (by simp [go_sem]) ?_
  intro k hk
  simp [go_sem]
  refine ⟨fun h2 => ?_, fun h2 => ?_⟩ <;> simp at h2
  · have e : fact (k + 1) * ((k : Int) + 2) = fact (k + 1 + 1) := by simp only [fact]; rw [show ((k + 1 : Nat) : Int) + 1 = (k : Int) + 2 by omega]
    have b := fact_20 (show k + 1 + 1 ≤ 20 by omega)
    simp [go_sem, e]
    refine ⟨by omega, by omega, k + 1, by omega, by omega, Off_reset _ _ _ (by simp), rfl, by omega⟩
  · simp [go_sem]
    rcases (show k = 0 ∧ n ≤ 1 ∨ k + 1 = n by omega) with ⟨rfl, _⟩ | hk
    · have : n = 0 ∨ n = 1 := by omega
      rcases this with rfl | rfl <;> rfl
    · rw [hk]
theorem l19Factorial_c (n : Nat) (h : n ≤ 20) : Con Try.prog 201 [.int n] (.int (fact n % 10007)) := by
  refine con_of_vc Try.mixed ⟨5, [], [], []⟩ Try.func201 (by decide) rfl (by simp) (by decide) rfl ?_
  rw [Try.ntmps201]
  simp [go_sem]
  refine loop_inv (0 :: List.range' 2 20) (fun x : Nat × Int => [(0, .int x.1), (3, .int x.2)]) (fun x => x.1 ≤ n ∧ isN x.2 ∧ x.2 * fact x.1 % 10007 = fact n % 10007) (fun x => x.1) (n, 1) ⟨by simp, ⟨by simp, by simp⟩, by simp⟩ (by simp [go_sem]) (by simp [go_sem]) ?_
  rintro ⟨k, o⟩ ⟨hk, ho, he⟩
  simp only at hk ho he
  simp [go_sem]
  refine ⟨fun h2 => ?_, fun h2 => ?_⟩ <;> simp at h2
  · obtain ⟨j, rfl⟩ : ∃ j, k = j + 1 := ⟨k - 1, by omega⟩
    simp [go_sem]
    refine CallVC.of (l01Mul_c _ _ (mul_fits ho ⟨by omega, by omega⟩)) (by decide) ?_
    simp [go_sem]
    refine ⟨by omega, j, o * (j + 1) % 10007, ⟨by omega, isN_mod _, ?_⟩, by omega, Off_reset _ _ _ (by simp), by omega, rfl⟩
    rw [mod_mul_l, ← he]
    simp [fact, Int.mul_assoc, Int.mul_comm (fact j)]
  · simp [go_sem]
    have : k = 0 ∨ k = 1 := by omega
    rw [← he]
    rcases this with rfl | rfl <;> simp [fact] <;> rw [Int.emod_eq_of_lt ho.1 ho.2]
end Go.Proofs.Ytoamidolomldnaa

/- Contracts: marks of tableaus, sums of products, products of a matrix with a row. -/
namespace Go.Proofs.Ytoamidolomldnaa
open Go.Abs
set_option linter.unusedVariables false
set_option linter.unusedSimpArgs false
set_option maxHeartbeats 1000000
theorem markTableau_c (A : List (List Int)) (B : List Int) (k : Int) (hA : A.length ≤ 1048576) (hr : ∀ r ∈ A, r.length ≤ 1048576) (h0 : 0 ≤ k) (h1 : k + sumL A + B.length ≤ 9223372036854775807) :
    MCon Try.prog 23 [.agg [.own 23 A.length (omat A), .own 2 B.length (avs B)], .int k] (.int (k + sumL A + B.length))
      [.agg [.own 23 A.length (omat (marksM A k)), .own 2 B.length (avs (marks B.length (k + sumL A)))], .any] := by
  refine mcon_of_vc Try.mixed ⟨5, [], [25, 24], []⟩ [4] [0] Try.func23 (by decide) rfl rfl (by simp) (by simp) (by simp) (by decide) ?_
  rw [Try.ntmps23]
  simp [go_sem]
  refine ⟨_, _, markInt64SS_c A k hA hr h0 (by omega), ?_⟩
  simp [go_sem]
  refine ⟨_, _, markInt64S_c 2 B (k + sumL A) (by omega) (by omega), ?_⟩
  simp [go_sem]
  rfl
end Go.Proofs.Ytoamidolomldnaa

/- Contracts: sums of products, products of a matrix with a row, the stability series. -/
namespace Go.Proofs.Ytoamidolomldnaa
open Go.Abs
set_option linter.unusedVariables false
set_option linter.unusedSimpArgs false
set_option maxHeartbeats 1000000
def dotI : List Int → List Int → Int
  | x :: xs, y :: ys => x * y + dotI xs ys
  | _, _ => 0
theorem dotI_take : ∀ {xs ys : List Int} {k : Nat}, k < xs.length → k < ys.length → dotI (xs.take (k + 1)) (ys.take (k + 1)) = dotI (xs.take k) (ys.take k) + xs[k]?.getD 0 * ys[k]?.getD 0
  | x :: xs, y :: ys, 0, _, _ => by simp [dotI]
  | x :: xs, y :: ys, k + 1, h, h2 => by
    have := dotI_take (xs := xs) (ys := ys) (k := k) (by simpa using h) (by simpa using h2)
    simp only [List.take_succ_cons, dotI, this, List.getElem?_cons_succ]; omega
theorem dotI_short : ∀ {xs ys : List Int}, xs.length ≤ ys.length → dotI xs (ys.take xs.length) = dotI xs ys
  | [], ys, _ => by simp [dotI]
  | x :: xs, [], h => by simp at h
  | x :: xs, y :: ys, h => by simp [dotI, dotI_short (xs := xs) (ys := ys) (by simpa using h)]
def Ns (xs : List Int) : Prop := ∀ x ∈ xs, isN x
theorem Ns.get {xs : List Int} (h : Ns xs) (k : Nat) : isN (xs[k]?.getD 0) := by
  rcases Nat.lt_or_ge k xs.length with hk | hk
  · simp [hk]; exact h _ (List.getElem_mem hk)
  · simp [hk]; exact ⟨by omega, by omega⟩
theorem Ns.take {xs : List Int} (h : Ns xs) (k : Nat) : Ns (xs.take k) := fun x hx => h x (List.mem_of_mem_take hx)
theorem Ns.snoc {xs : List Int} (h : Ns xs) {x : Int} (hx : isN x) : Ns (xs ++ [x]) := fun y hy => by
  rcases List.mem_append.1 hy with hy | hy
  · exact h y hy
  · simp at hy; subst hy; exact hx
theorem Ns.nil : Ns [] := by intro x hx; simp at hx
theorem dotI_bound : ∀ {xs ys : List Int}, Ns xs → Ns ys → 0 ≤ dotI xs ys ∧ dotI xs ys ≤ xs.length * 100120036
  | [], ys, _, _ => by simp [dotI]
  | x :: xs, [], _, _ => by simp [dotI]; omega
  | x :: xs, y :: ys, hx, hy => by
    have h1 := dotI_bound (xs := xs) (ys := ys) (fun z hz => hx z (by simp [hz])) (fun z hz => hy z (by simp [hz]))
    have h2 := mul_bound (hx x (by simp)) (hy y (by simp))
    simp only [dotI, List.length_cons]; omega
theorem dot_c (xs ys : List Int) (hl : xs.length ≤ ys.length) (h64 : xs.length ≤ 64) (hx : Ns xs) (hy : Ns ys) : Con Try.prog 98 [.sl xs.length (avs xs), .sl ys.length (avs ys)] (.int (dotI xs ys % 10007)) := by
  refine con_of_vc Try.mixed ⟨8, [], [], []⟩ Try.func98 (by decide) rfl (by simp) (by decide) (by simp [freshOK, freshL, go_sem]) ?_
  rw [Try.ntmps98]
  simp [go_sem]
  refine loop_inv (5 :: 6 :: 7 :: List.range' 10 14) (fun k : Nat => [(5, .int (dotI (xs.take k) (ys.take k))), (10, .int k)]) (fun k => k ≤ xs.length) (fun k => xs.length - k) 0 (by simp) (by simp [go_sem, dotI]) (by simp [go_sem]) ?_
  intro k hk
  have b1 := dotI_bound (hx.take k) (hy.take k)
  have b2 := mul_bound (hx.get k) (hy.get k)
  simp only [List.length_take] at b1
  simp [go_sem]
  refine ⟨fun h => ?_, fun h => ?_⟩ <;> simp at h
  · have h2 : k < ys.length := by omega
    simp [go_sem, avs_drop h, avs_drop h2]
    refine ⟨⟨h, by rintro rfl; simp at h⟩, ⟨h2, by rintro rfl; simp at h2⟩, by omega, by omega, by omega, k + 1, by omega, by omega, Off_reset _ _ _ (by simp), (dotI_take h h2).symm, by omega⟩
  · have e : k = xs.length := by omega
    subst e
    have := dotI_bound hx hy
    rw [List.take_length, dotI_short hl] at *
    simp [go_sem]
    refine CallVC.of (num_c _ (by omega) (by omega)) (by decide) ?_
    simp [go_sem]
theorem l01Dot_c (xs ys : List Int) (hl : xs.length ≤ ys.length) (h64 : xs.length ≤ 9223372036854775807) (hx : Ns xs) (hy : Ns ys) : Con Try.prog 213 [.sl xs.length (avs xs), .sl ys.length (avs ys)] (.int (dotI xs ys % 10007)) := by
  refine con_of_vc Try.mixed ⟨7, [], [], []⟩ Try.func213 (by decide) rfl (by simp) (by decide) (by simp [freshOK, freshL, go_sem]) ?_
  rw [Try.ntmps213]
  simp [go_sem]
  refine loop_inv (List.range' 5 25) (fun k : Nat => [(5, .int (dotI (xs.take k) (ys.take k) % 10007)), (6, .int k)]) (fun k => k ≤ xs.length) (fun k => xs.length - k) 0 (by simp) (by simp [go_sem, dotI]) (by simp [go_sem]) ?_
  intro k hk
  simp [go_sem]
  refine ⟨fun h => ?_, fun h => ?_⟩ <;> simp at h
  · have h2 : k < ys.length := by omega
    simp [go_sem, avs_drop h, avs_drop h2]
    refine ⟨by kernel_rfl, ⟨h, by rintro rfl; simp at h⟩, ⟨h2, by rintro rfl; simp at h2⟩, ?_⟩
    refine CallD.of (l01Mul_c _ _ (mul_fits (hx.get k) (hy.get k))) (by simp [roots, rootsL]) (by decide) ?_
    simp [go_sem]
    refine CallD.of (l01Add_c _ _ (add_fits (isN_mod _) (isN_mod _))) (by simp [roots, rootsL]) (by decide) ?_
    simp [go_sem]
    refine ⟨by kernel_rfl, ?_⟩
    simp [go_sem]
    refine ⟨by omega, k + 1, by omega, by omega, Off_reset _ _ _ (by simp), ?_, by omega⟩
    rw [dotI_take h h2]
  · have e : k = xs.length := by omega
    subst e
    rw [List.take_length, dotI_short hl]
    simp [go_sem]
/-- Rows by a row. -/
def tim (A : List (List Int)) (v : List Int) : List Int := A.map fun r => dotI r v % 10007
@[simp] theorem tim_len (A : List (List Int)) (v : List Int) : (tim A v).length = A.length := by simp [tim]
theorem tim_take {A : List (List Int)} {v : List Int} {k : Nat} (h : k < A.length) : tim (A.take (k + 1)) v = tim (A.take k) v ++ [dotI (A[k]?.getD []) v % 10007] := by
  rw [tim, tim, List.take_add_one, List.getElem?_eq_getElem h]
  simp only [List.map_append, List.map_cons, List.map_nil, Option.toList_some, Option.getD_some]
theorem tim_N (A : List (List Int)) (v : List Int) : Ns (tim A v) := by
  intro x hx
  simp [tim] at hx
  obtain ⟨r, _, rfl⟩ := hx
  exact isN_mod _
/-- A matrix of numbers with rows of n. -/
def Mat (n : Nat) (A : List (List Int)) : Prop := ∀ r ∈ A, r.length = n ∧ Ns r
theorem Mat.get {n : Nat} {A : List (List Int)} (h : Mat n A) {k : Nat} (hk : k < A.length) : (A[k]?.getD []).length = n ∧ Ns (A[k]?.getD []) := by
  rw [List.getElem?_eq_getElem hk]; exact h _ (List.getElem_mem hk)
theorem applied_c (A : List (List Int)) (B v : List Int) (hA : Mat v.length A) (h64 : v.length ≤ 64) (hl : A.length ≤ 1048576) (hv : Ns v) :
    Con Try.prog 211 [.agg [.sl A.length (mat A), .sl B.length (avs B)], .sl v.length (avs v)] (.own 2 A.length (avs (tim A v))) := by
  refine con_of_vc Try.mixed ⟨8, [], [], []⟩ Try.func211 (by decide) rfl (by simp) (by decide) (by simp [freshOK, freshL, go_sem]) ?_
  rw [Try.ntmps211]
  simp [go_sem]
  refine loop_inv (5 :: 6 :: 7 :: List.range' 12 11) (fun k : Nat => [(5, .own 2 k (avs (tim (A.take k) v))), (12, .int k)]) (fun k => k ≤ A.length) (fun k => A.length - k) 0 (by simp) (by simp [go_sem, tim]) (by simp [go_sem]) ?_
  intro k hk
  simp [go_sem]
  refine ⟨fun h => ?_, fun h => ?_⟩ <;> simp at h
  · have g1 := (hA.get h).1
    have g2 := (hA.get h).2
    simp [go_sem, mat_drop h]
    refine ⟨⟨h, by rintro rfl; simp at h⟩, ?_⟩
    refine CallVC.of (dot_c _ v (by omega) (by omega) g2 hv) (by decide) ?_
    simp [go_sem]
    refine ⟨⟨by omega, by omega⟩, by omega, k + 1, by omega, by omega, Off_reset _ _ _ (by simp), ?_, by omega⟩
    simp [tim_take h, avs_snoc]
  · simp [go_sem]
    have e : k = A.length := by omega
    subst e; simp
theorem l09Times_c (A : List (List Int)) (v : List Int) (hA : Mat v.length A) (h64 : v.length ≤ 1048576) (hl : A.length ≤ 1048576) (hv : Ns v) :
    Con Try.prog 170 [.sl A.length (mat A), .sl v.length (avs v)] (.own 2 A.length (avs (tim A v))) := by
  refine con_of_vc Try.mixed ⟨7, [], [], []⟩ Try.func170 (by decide) rfl (by simp) (by decide) (by simp [freshOK, freshL, go_sem]) ?_
  rw [Try.ntmps170]
  simp [go_sem]
  refine loop_inv (List.range' 5 25) (fun k : Nat => [(5, .own 2 k (avs (tim (A.take k) v))), (6, .int k)]) (fun k => k ≤ A.length) (fun k => A.length - k) 0 (by simp) (by simp [go_sem, tim]) (by simp [go_sem]) ?_
  intro k hk
  simp [go_sem]
  refine ⟨fun h => ?_, fun h => ?_⟩ <;> simp at h
  · have g1 := (hA.get h).1
    have g2 := (hA.get h).2
    simp [go_sem, mat_drop h]
    refine ⟨⟨h, by rintro rfl; simp at h⟩, ?_⟩
    refine CallVC.of (l01Dot_c _ v (by omega) (by omega) g2 hv) (by decide) ?_
    simp [go_sem]
    refine ⟨⟨by omega, by omega⟩, by omega, k + 1, by omega, by omega, Off_reset _ _ _ (by simp), ?_, by omega⟩
    simp [tim_take h, avs_snoc]
  · simp [go_sem]
    have e : k = A.length := by omega
    subst e; simp
end Go.Proofs.Ytoamidolomldnaa

/- Contracts: repeated rows. -/
namespace Go.Proofs.Ytoamidolomldnaa
open Go.Abs
set_option linter.unusedVariables false
set_option linter.unusedSimpArgs false
set_option maxHeartbeats 1000000
abbrev u64 (n : Int) : AV := .val (.int .u64 n)
theorem and_low {x : Int} (h0 : 0 ≤ x) (h1 : x < 4294967296) : andI .u64 x 4294967295 = x := by
  obtain ⟨n, rfl⟩ := Int.eq_ofNat_of_zero_le h0
  have hn : n < 2 ^ 32 := by omega
  have e1 : (BitVec.ofInt 64 (n : Int)).toNat = n := by
    rw [BitVec.toNat_ofInt]; simp; omega
  have e2 : (BitVec.ofInt 64 4294967295).toNat = 2 ^ 32 - 1 := by decide
  show IntKind.wrap .u64 ((BitVec.ofInt 64 (n : Int) &&& BitVec.ofInt 64 4294967295).toNat : Int) = n
  rw [BitVec.toNat_and, e1, e2, Nat.and_two_pow_sub_one_eq_mod, Nat.mod_eq_of_lt hn]
  exact wrap_in (by
    have e1 : IntKind.min .u64 = 0 := by decide
    have e2 : IntKind.max .u64 = 18446744073709551615 := by decide
    unfold inK; rw [e1, e2]; omega)
theorem wrap_u64 {x : Int} (h0 : 0 ≤ x) (h1 : x < 18446744073709551616) : IntKind.wrap .u64 x = x := wrap_in (by
  have e1 : IntKind.min .u64 = 0 := by decide
  have e2 : IntKind.max .u64 = 18446744073709551615 := by decide
  unfold inK; rw [e1, e2]; omega)
theorem shr_low {x : Int} (h0 : 0 ≤ x) (h1 : x < 4294967296) : shrI .u64 x 32 = 0 := by
  show x.fdiv (2 ^ min (32 : Int).toNat 64) = 0
  rw [show ((2 : Int) ^ min (32 : Int).toNat 64) = 4294967296 from rfl, Int.fdiv_eq_ediv_of_nonneg _ (by omega)]; omega
set_option maxRecDepth 100000 in
theorem Mul64_c (x y : Int) (hx : 0 ≤ x) (hx1 : x < 4294967296) (hy : 0 ≤ y) (hy1 : y < 4294967296) (h0 : 0 ≤ x * y) (h : x * y < 4294967296) : Con Try.prog 271 [u64 x, u64 y] (.tup [u64 0, u64 (x * y)]) := by
  have a0 := and_low (Int.le_refl 0) (by omega)
  have a1 := and_low hx hx1
  have a2 := and_low hy hy1
  have s0 := shr_low (Int.le_refl 0) (by omega)
  have s1 := shr_low hx hx1
  have s2 := shr_low hy hy1
  have s3 := shr_low h0 h
  have w3 := wrap_u64 h0 (by omega)
  have w0 := wrap_u64 (Int.le_refl 0) (by omega)
  refine con_of_vc Try.mixed ⟨14, [], [], []⟩ Try.func271 (by decide) rfl (by simp) (by decide) (by simp [freshOK, freshL]) ?_
  rw [Try.ntmps271]
  simp [go_sem, a0, a1, a2, s0, s1, s2, s3, w3, w0]
theorem Mul_c (x y : Int) (hx : 0 ≤ x) (hx1 : x < 4294967296) (hy : 0 ≤ y) (hy1 : y < 4294967296) (h0 : 0 ≤ x * y) (h : x * y < 4294967296) : Con Try.prog 253 [u64 x, u64 y] (.tup [u64 0, u64 (x * y)]) := by
  refine con_of_vc Try.mixed ⟨10, [], [], []⟩ Try.func253 (by decide) rfl (by simp) (by decide) (by simp [freshOK, freshL, go_sem]) ?_
  rw [Try.ntmps253]
  simp [go_sem]
  refine CallVC.of (Mul64_c x y hx hx1 hy hy1 h0 h) (by decide) ?_
  simp [go_sem]
theorem rep_copy (x : Int) (s n : Nat) (h : n ≤ s) : setMany (avs (List.replicate n x ++ List.replicate (s - n) 0)) n ((avs (List.replicate n x ++ List.replicate (s - n) 0)).take (min n (s - n))) =
    avs (List.replicate (n + min n (s - n)) x ++ List.replicate (s - (n + min n (s - n))) 0) := by
  rw [setMany_eq _ _ _ (by simp; omega)]
  simp only [avs, ← List.map_take, ← List.map_drop, ← List.map_append]
  congr 1
  simp only [List.take_append_of_le_length (show min n (s - n) ≤ (List.replicate n x).length by simp; omega), List.take_append_of_le_length (show n ≤ (List.replicate n x).length by simp), List.take_replicate, Nat.min_self, Nat.min_eq_left (Nat.min_le_left n (s - n))]
  rw [List.drop_append]
  simp
  omega
/-- A row repeated: one number. -/
theorem Repeat_c (x : Int) (s : Nat) (h1 : 1 ≤ s) (h2 : s ≤ 1000) : Con Try.prog 209 [.sl 1 [.int x], .int s] (.own 2 s (avs (List.replicate s x))) := by
  have w1 : IntKind.wrap .u64 1 = 1 := by decide
  have w2 : IntKind.wrap .u64 (s : Int) = s := wrap_u64 (by omega) (by omega)
  refine con_of_vc Try.mixed ⟨9, [], [], []⟩ Try.func209 (by decide) rfl (by simp) (by decide) (by simp [freshOK, freshL, go_sem]) ?_
  rw [Try.ntmps209]
  simp [go_sem]
  refine ⟨fun h => ?_, fun _ => ?_⟩
  · simp at h; omega
  simp [go_sem, w1, w2]
  refine CallVC.of (Mul_c 1 s (by omega) (by omega) (by omega) (by omega) (by omega) (by omega)) (by decide) ?_
  have e1 : (1 : Int) * s = s := by omega
  simp [go_sem, e1]
  refine ⟨fun h => ?_, fun _ => ?_⟩
  · simp at h; omega
  simp [go_sem]
  refine ⟨by omega, ⟨by omega, by omega⟩, ⟨by omega, by omega, by omega⟩, ?_⟩
  refine loop_inv (7 :: 8 :: List.range' 34 13) (fun n : Nat => [(7, .own 2 s (avs (List.replicate n x ++ List.replicate (s - n) 0))), (8, .int n)]) (fun n => 1 ≤ n ∧ n ≤ s) (fun n => s - n) 1 ⟨by omega, h1⟩ ?_ (by simp [go_sem]) ?_
  · simp [go_sem]
    obtain ⟨m, rfl⟩ : ∃ m, s = m + 1 := ⟨s - 1, by omega⟩
    simp [List.replicate_succ, avs_cons, setMany, avs_repl, go_sem]
  rintro n ⟨hn1, hn2⟩
  simp [go_sem]
  refine ⟨fun h => ?_, fun h => ?_⟩ <;> simp at h
  · have hz : ¬ n = 0 := by omega
    simp [go_sem, hz]
    refine ⟨by kernel_rfl, h, ⟨by omega, by omega⟩, ⟨by omega, by omega⟩, ⟨by omega, by omega⟩, ?_⟩
    refine ⟨by kernel_rfl, ?_⟩
    simp [go_sem]
    refine ⟨n + min n (s - n), ⟨by omega, by omega⟩, by omega, Off_reset _ _ _ (by simp), ?_, by omega⟩
    have hc := rep_copy x s n (by omega)
    simpa using hc
  · simp [go_sem]
    have e : n = s := by omega
    subst e; simp
end Go.Proofs.Ytoamidolomldnaa

/- Contracts: the stability series. -/
namespace Go.Proofs.Ytoamidolomldnaa
open Go.Abs
set_option linter.unusedVariables false
set_option linter.unusedSimpArgs false
set_option maxHeartbeats 1000000
theorem specIsNumber_c (a : Int) : Con Try.prog 74 [.int a] (.bool (decide (0 ≤ a ∧ a ≤ 10006))) := by
  refine con_of_vc Try.mixed ⟨3, [], [], []⟩ Try.func74 (by decide) rfl (by simp) (by decide) (by simp [freshOK, freshL, go_sem]) ?_
  rw [Try.ntmps74]
  simp [go_sem]
  refine CallVC.of (l01In_c _ _ _) (by decide) ?_
  simp [go_sem]
theorem numsB_bad {xs : List Int} {i : Nat} (h : i < xs.length) (hb : ¬ (0 ≤ xs[i]?.getD 0 ∧ xs[i]?.getD 0 ≤ 10006)) : numsB xs = false := by
  rw [List.getElem?_eq_getElem h] at hb
  simp only [Option.getD_some] at hb
  unfold numsB
  rw [List.all_eq_false]
  exact ⟨xs[i], List.getElem_mem h, by simpa using hb⟩
theorem numsB_ok {xs : List Int} (h : ∀ x ∈ xs, 0 ≤ x ∧ x ≤ 10006) : numsB xs = true := by
  unfold numsB
  rw [List.all_eq_true]
  intro x hx
  simpa using h x hx
theorem numsB_N {xs : List Int} : numsB xs = true ↔ Ns xs := by
  unfold numsB Ns isN
  rw [List.all_eq_true]
  constructor
  · intro h x hx
    have := h x hx
    simp at this; omega
  · intro h x hx
    have := h x hx
    simp; omega
theorem take_all {α : Type} {p : α → Prop} {xs : List α} {i : Nat} (h : i < xs.length) (h1 : ∀ x ∈ xs.take i, p x) (h2 : p xs[i]) : ∀ x ∈ xs.take (i + 1), p x := by
  intro x hx
  rw [List.take_add_one, List.getElem?_eq_getElem h, Option.toList_some, List.mem_append, List.mem_singleton] at hx
  rcases hx with hx | rfl
  · exact h1 x hx
  · exact h2
theorem l01Numbers_c (xs : List Int) (hl : xs.length ≤ 9223372036854775807) : Con Try.prog 86 [.sl xs.length (avs xs)] (.bool (numsB xs)) := by
  refine con_of_vc Try.mixed ⟨4, [], [], []⟩ Try.func86 (by decide) rfl (by simp) (by decide) (by simp [freshOK, freshL, go_sem]) ?_
  rw [Try.ntmps86]
  simp [go_sem]
  refine loop_inv (List.range' 2 14) (fun i : Nat => [(3, .int i)]) (fun i => i ≤ xs.length ∧ ∀ x ∈ xs.take i, 0 ≤ x ∧ x ≤ 10006) (fun i => xs.length - i) 0 (by simp) (by simp [go_sem]) (by simp [go_sem]) ?_
  rintro i ⟨hi, hp⟩
  simp [go_sem]
  refine ⟨fun h => ?_, fun h => ?_⟩ <;> simp at h
  · simp [go_sem, avs_drop h]
    refine ⟨⟨h, by rintro rfl; simp at h⟩, ?_⟩
    refine CallVC.of (specIsNumber_c _) (by decide) ?_
    by_cases hb : 0 ≤ xs[i]?.getD 0 ∧ xs[i]?.getD 0 ≤ 10006
    · simp [go_sem, hb]
      refine ⟨by omega, i + 1, ⟨by omega, ?_⟩, by omega, Off_reset _ _ _ (by simp), by omega⟩
      rw [List.getElem?_eq_getElem h, Option.getD_some] at hb
      exact take_all h hp hb
    · have e : decide (0 ≤ xs[i]?.getD 0 ∧ xs[i]?.getD 0 ≤ 10006) = false := by simpa using hb
      rw [e]
      simp [go_sem]
      exact numsB_bad h hb
  · simp [go_sem]
    have e : i = xs.length := by omega
    subst e
    rw [List.take_length] at hp
    exact numsB_ok hp
theorem l09Is_c (A : List (List Int)) (B : List Int) (hA : A.length ≤ 9223372036854775807) (hB : B.length ≤ 9223372036854775807) (hr : ∀ r ∈ A, r.length ≤ 9223372036854775807) :
    Con Try.prog 73 [.agg [.sl A.length (mat A), .sl B.length (avs B)]] (.bool (tabB A B)) := by
  have bad : ¬ (1 ≤ B.length ∧ B.length ≤ 8 ∧ A.length = B.length) → tabB A B = false := fun h => by
    unfold tabB
    rw [decide_eq_false h]; rfl
  refine con_of_vc Try.mixed ⟨5, [], [], []⟩ Try.func73 (by decide) rfl (by simp) (by decide) (by simp [freshOK, freshL, go_sem]) ?_
  rw [Try.ntmps73]
  simp [go_sem]
  by_cases h1 : 1 ≤ B.length
  · by_cases h2 : B.length ≤ 8
    · by_cases h3 : A.length = B.length
      · have i1 : ¬ (B.length : Int) < 1 := by omega
        have i2 : ¬ 8 < (B.length : Int) := by omega
        have i3 : (A.length : Int) = B.length := by omega
        simp [go_sem, i1, i2, i3]
        refine CallVC.of (l01Numbers_c B hB) (by decide) ?_
        cases hB2 : numsB B with
        | false =>
          simp [go_sem]
          unfold tabB; rw [hB2]; simp
        | true =>
          simp [go_sem]
          refine loop_inv (2 :: 4 :: List.range' 27 22) (fun i : Nat => [(4, .int i)]) (fun i => i ≤ B.length ∧ ∀ r ∈ A.take i, r.length = B.length ∧ numsB r = true) (fun i => B.length - i) 0 (by simp) (by simp [go_sem]) (by simp [go_sem]) ?_
          rintro i ⟨hi, hp⟩
          have fine : tabB A B = A.all (fun r => decide (r.length = B.length) && numsB r) := by
            unfold tabB; rw [hB2, decide_eq_true ⟨h1, h2, h3⟩]; simp
          simp [go_sem]
          refine ⟨fun h => ?_, fun h => ?_⟩ <;> simp at h
          · have hA2 : i < A.length := by omega
            have wrong : ¬ ((A[i]?.getD []).length = B.length ∧ numsB (A[i]?.getD []) = true) → tabB A B = false := fun hb => by
              rw [List.getElem?_eq_getElem hA2, Option.getD_some] at hb
              rw [fine, List.all_eq_false]
              exact ⟨A[i], List.getElem_mem hA2, by simpa using hb⟩
            simp [go_sem, mat_drop hA2]
            refine ⟨⟨hA2, by rintro rfl; simp at hA2⟩, ?_⟩
            by_cases g1 : (A[i]?.getD []).length = B.length
            · have g1' : ((A[i]?.getD []).length : Int) = B.length := by omega
              simp [go_sem, g1', mat_drop hA2]
              refine ⟨⟨hA2, by rintro rfl; simp at hA2⟩, ?_⟩
              refine CallVC.of (l01Numbers_c _ (by omega)) (by decide) ?_
              cases g2 : numsB (A[i]?.getD []) with
              | false =>
                simp [go_sem]
                exact wrong (by rw [g2]; simp)
              | true =>
                simp [go_sem]
                refine ⟨by omega, i + 1, ⟨by omega, ?_⟩, by omega, Off_reset _ _ _ (by simp), by omega⟩
                rw [List.getElem?_eq_getElem hA2, Option.getD_some] at g1 g2
                exact take_all hA2 hp ⟨g1, g2⟩
            · have g1' : ¬ ((A[i]?.getD []).length : Int) = B.length := by omega
              simp [go_sem, g1']
              exact wrong (fun h => g1 h.1)
          · simp [go_sem]
            have e : i = A.length := by omega
            subst e
            rw [List.take_length] at hp
            rw [fine, List.all_eq_true]
            intro r hr
            simpa using hp r hr
      · have i1 : ¬ (B.length : Int) < 1 := by omega
        have i2 : ¬ 8 < (B.length : Int) := by omega
        have i3 : ¬ (A.length : Int) = B.length := by omega
        simp [go_sem, i1, i2, i3, bad (fun h => h3 h.2.2)]
    · have i1 : ¬ (B.length : Int) < 1 := by omega
      have i2 : 8 < (B.length : Int) := by omega
      simp [go_sem, i1, i2, bad (fun h => h2 h.2.1)]
  · have i1 : (B.length : Int) < 1 := by omega
    simp [go_sem, i1, bad (fun h => h1 h.1)]
theorem l09Ones_c (n : Nat) (hn : n ≤ 1000000) : Con Try.prog 212 [.int n] (.own 2 n (avs (List.replicate n 1))) := by
  refine con_of_vc Try.mixed ⟨4, [], [], []⟩ Try.func212 (by decide) rfl (by simp) (by decide) (by simp [freshOK, freshL, go_sem]) ?_
  rw [Try.ntmps212]
  simp [go_sem]
  refine loop_inv (0 :: List.range' 3 9) (fun i : Nat => [(0, .int (n - i : Nat)), (3, .own 2 i (avs (List.replicate i 1)))]) (fun i => i ≤ n) (fun i => n - i) 0 (by simp) (by simp [go_sem]) (by simp [go_sem]) ?_
  intro i hi
  simp [go_sem]
  refine ⟨fun h => ?_, fun h => ?_⟩ <;> simp at h
  · simp [go_sem]
    refine ⟨⟨by omega, by omega⟩, by omega, i + 1, by omega, by omega, Off_reset _ _ _ (by simp), by omega, ?_⟩
    simp [List.replicate_succ', avs_snoc]
  · simp [go_sem]
    have e : i = n := by omega
    subst e; simp
/-- The stage weights of the k-th power. -/
def wts (A : List (List Int)) (s : Nat) : Nat → List Int
  | 0 => List.replicate s 1
  | k + 1 => tim A (wts A s k)
def serL (A : List (List Int)) (B : List Int) (k : Nat) : List Int := 1 :: (List.range k).map fun i => dotI B (wts A B.length i) % 10007
@[simp] theorem serL_len (A : List (List Int)) (B : List Int) (k : Nat) : (serL A B k).length = k + 1 := by simp [serL]
theorem serL_succ (A : List (List Int)) (B : List Int) (k : Nat) : serL A B (k + 1) = serL A B k ++ [dotI B (wts A B.length k) % 10007] := by simp [serL, List.range_succ]
theorem wts_len {A : List (List Int)} {s : Nat} (h : A.length = s) : ∀ k, (wts A s k).length = s
  | 0 => by simp [wts]
  | k + 1 => by simp [wts, h]
theorem wts_N (A : List (List Int)) (s : Nat) : ∀ k, Ns (wts A s k)
  | 0 => by
    intro x hx
    simp [wts, List.mem_replicate] at hx
    rw [hx.2]; exact ⟨by omega, by omega⟩
  | k + 1 => tim_N _ _
structure Tab (A : List (List Int)) (B : List Int) : Prop where
  pos : 1 ≤ B.length
  le : B.length ≤ 8
  len : A.length = B.length
  b : Ns B
  a : Mat B.length A
theorem tabB_iff {A : List (List Int)} {B : List Int} : tabB A B = true ↔ Tab A B := by
  unfold tabB
  simp only [Bool.and_eq_true, decide_eq_true_eq, List.all_eq_true, numsB_N]
  constructor
  · rintro ⟨⟨⟨h1, h2, h3⟩, h4⟩, h5⟩
    exact ⟨h1, h2, h3, h4, fun r hr => h5 r hr⟩
  · rintro ⟨h1, h2, h3, h4, h5⟩
    exact ⟨⟨⟨h1, h2, h3⟩, h4⟩, fun r hr => h5 r hr⟩
theorem stabilitySeries_c (A : List (List Int)) (B : List Int) (n : Nat) (hT : Tab A B) (hn : n ≤ 15) :
    Con Try.prog 140 [.agg [.sl A.length (mat A), .sl B.length (avs B)], .int n] (.own 2 (n + 1) (avs (serL A B n))) := by
  have hp := hT.pos
  have hl := hT.le
  refine con_of_vc Try.mixed ⟨7, [], [], []⟩ Try.func140 (by decide) rfl (by simp) (by decide) (by simp [freshOK, freshL, go_sem]) ?_
  rw [Try.ntmps140]
  simp [go_sem]
  refine CallVC.of (tab_c _ _ _ _) (by decide) ?_
  simp [go_sem]
  refine CallVC.of (Repeat_c 1 B.length (by omega) (by omega)) (by decide) ?_
  simp [go_sem]
  refine loop_inv (5 :: 6 :: List.range' 13 13) (fun i : Nat => [(5, .own 2 (i + 1) (avs (serL A B i))), (6, .own 2 B.length (avs (wts A B.length i))), (13, .int i)]) (fun i => i ≤ n) (fun i => n - i) 0 (by simp) (by simp [go_sem, serL, wts, avs_cons]) (by simp [go_sem]) ?_
  intro i hi
  have w1 := wts_len (s := B.length) hT.len i
  have w2 := wts_N A B.length i
  have cd := dot_c B (wts A B.length i) (by omega) (by omega) hT.b w2
  have ca := applied_c A B (wts A B.length i) (by rw [w1]; exact hT.a) (by omega) (by rw [hT.len]; omega) w2
  rw [w1] at cd ca
  simp [go_sem]
  refine ⟨fun h => ?_, fun h => ?_⟩ <;> simp at h
  · simp [go_sem]
    refine CallVC.of (cd) (by decide) ?_
    simp [go_sem]
    refine ⟨⟨by omega, by omega⟩, ?_⟩
    refine CallVC.of (ca) (by decide) ?_
    simp [go_sem]
    refine ⟨by omega, i + 1, by omega, by omega, Off_reset _ _ _ (by simp), ?_, ?_, by omega⟩
    · simp [serL_succ, avs_snoc]
    · simp [wts, hT.len]
  · simp [go_sem]
    have e : i = n := by omega
    subst e; simp
theorem l19Weights_c (A : List (List Int)) (B : List Int) (n : Nat) (hT : Tab A B) (hn : n ≤ 15) :
    Con Try.prog 141 [.agg [.sl A.length (mat A), .sl B.length (avs B)], .int n] (.own 2 (n + 1) (avs (serL A B n))) := by
  have hp := hT.pos
  have hl := hT.le
  refine con_of_vc Try.mixed ⟨7, [], [], []⟩ Try.func141 (by decide) rfl (by simp) (by decide) (by simp [freshOK, freshL, go_sem]) ?_
  rw [Try.ntmps141]
  simp [go_sem]
  refine CallVC.of (l09Ones_c _ (by omega)) (by decide) ?_
  simp [go_sem]
  refine loop_inv (5 :: 6 :: List.range' 12 15) (fun i : Nat => [(5, .own 2 (i + 1) (avs (serL A B i))), (6, .own 2 B.length (avs (wts A B.length i)))]) (fun i => i ≤ n) (fun i => n - i) 0 (by simp) (by simp [go_sem, serL, wts, avs_cons]) (by simp [go_sem]) ?_
  intro i hi
  have w1 := wts_len (s := B.length) hT.len i
  have w2 := wts_N A B.length i
  have cd := l01Dot_c B (wts A B.length i) (by omega) (by omega) hT.b w2
  have ca := l09Times_c A (wts A B.length i) (by rw [w1]; exact hT.a) (by omega) (by rw [hT.len]; omega) w2
  rw [w1] at cd ca
  simp [go_sem]
  refine ⟨fun h => ?_, fun h => ?_⟩ <;> simp at h
  · simp [go_sem]
    refine CallVC.of (cd) (by decide) ?_
    simp [go_sem]
    refine ⟨⟨by omega, by omega⟩, ?_⟩
    refine CallVC.of (ca) (by decide) ?_
    simp [go_sem]
    refine ⟨i + 1, by omega, by omega, Off_reset _ _ _ (by simp), ?_, ?_⟩
    · simp [serL_succ, avs_snoc]
    · simp [wts, hT.len]
  · simp [go_sem]
    have e : i = n := by omega
    subst e; simp
/-- What the function over tableaus answers: the row, and the code. -/
def stabX (A : List (List Int)) (B : List Int) (n : Int) : List Int := if tabB A B = true ∧ 0 ≤ n ∧ n ≤ 15 then serL A B n.toNat else []
def stabE (A : List (List Int)) (B : List Int) (n : Int) : Int := if tabB A B = true then if 0 ≤ n ∧ n ≤ 15 then 0 else 2 else 1
def stabR (A : List (List Int)) (B : List Int) (n : Int) : AV := .tup [.own 2 (stabX A B n).length (avs (stabX A B n)), .int (stabE A B n)]
theorem StabilitySeries_c (A : List (List Int)) (B : List Int) (n : Int) (hA : A.length ≤ 9223372036854775807) (hB : B.length ≤ 9223372036854775807) (hr : ∀ r ∈ A, r.length ≤ 9223372036854775807) :
    Con Try.prog 54 [.agg [.sl A.length (mat A), .sl B.length (avs B)], .int n] (stabR A B n) := by
  have cT := IsTableau_c A B hA hB hr
  have cR := inRange_c n 0 15
  unfold stabR stabX stabE
  cases hT : tabB A B with
  | false =>
    rw [hT] at cT
    refine Con.n1 _ ?_
    refine con_of_vc Try.mixed ⟨6, [], [], []⟩ Try.func54 (by decide) rfl (by simp) (by decide) (by simp [freshOK, freshL, go_sem]) ?_
    rw [Try.ntmps54]
    simp [go_sem]
    refine CallVC.of (cT) (by decide) ?_
    simp [go_sem]
  | true =>
    rw [hT] at cT
    by_cases hn : 0 ≤ n ∧ n ≤ 15
    · have e : (decide (0 ≤ n) && decide (n ≤ 15)) = true := by simpa using hn
      rw [e] at cR
      simp only [hn, and_self, if_true, serL_len]
      obtain ⟨k, rfl⟩ : ∃ k : Nat, n = k := ⟨n.toNat, by omega⟩
      refine con_of_vc Try.mixed ⟨6, [], [], []⟩ Try.func54 (by decide) rfl (by simp) (by decide) (by simp [freshOK, freshL, go_sem]) ?_
      rw [Try.ntmps54]
      simp [go_sem]
      refine CallVC.of (cT) (by decide) ?_
      simp [go_sem]
      refine CallVC.of (cR) (by decide) ?_
      simp [go_sem]
      refine CallVC.of (stabilitySeries_c A B k (tabB_iff.1 hT) (by omega)) (by decide) ?_
      simp [go_sem]
    · have e : (decide (0 ≤ n) && decide (n ≤ 15)) = false := by simpa using hn
      rw [e] at cR
      simp only [hn, and_false, if_false, if_true]
      refine Con.n1 _ ?_
      refine con_of_vc Try.mixed ⟨6, [], [], []⟩ Try.func54 (by decide) rfl (by simp) (by decide) (by simp [freshOK, freshL, go_sem]) ?_
      rw [Try.ntmps54]
      simp [go_sem]
      refine CallVC.of (cT) (by decide) ?_
      simp [go_sem]
      refine CallVC.of (cR) (by decide) ?_
      simp [go_sem]
theorem specStabilitySeries_c (A : List (List Int)) (B : List Int) (n : Int) (hA : A.length ≤ 9223372036854775807) (hB : B.length ≤ 9223372036854775807) (hr : ∀ r ∈ A, r.length ≤ 9223372036854775807) :
    Con Try.prog 55 [.agg [.sl A.length (mat A), .sl B.length (avs B)], .int n] (stabR A B n) := by
  have cT := l09Is_c A B hA hB hr
  have cR := l01In_c n 0 15
  unfold stabR stabX stabE
  cases hT : tabB A B with
  | false =>
    rw [hT] at cT
    refine Con.n1 _ ?_
    refine con_of_vc Try.mixed ⟨6, [], [], []⟩ Try.func55 (by decide) rfl (by simp) (by decide) (by simp [freshOK, freshL, go_sem]) ?_
    rw [Try.ntmps55]
    simp [go_sem]
    refine CallVC.of (cT) (by decide) ?_
    simp [go_sem]
  | true =>
    rw [hT] at cT
    by_cases hn : 0 ≤ n ∧ n ≤ 15
    · have e : (decide (0 ≤ n) && decide (n ≤ 15)) = true := by simpa using hn
      rw [e] at cR
      simp only [hn, and_self, if_true, serL_len]
      obtain ⟨k, rfl⟩ : ∃ k : Nat, n = k := ⟨n.toNat, by omega⟩
      refine con_of_vc Try.mixed ⟨6, [], [], []⟩ Try.func55 (by decide) rfl (by simp) (by decide) (by simp [freshOK, freshL, go_sem]) ?_
      rw [Try.ntmps55]
      simp [go_sem]
      refine CallVC.of (cT) (by decide) ?_
      simp [go_sem]
      refine CallVC.of (cR) (by decide) ?_
      simp [go_sem]
      refine CallVC.of (l19Weights_c A B k (tabB_iff.1 hT) (by omega)) (by decide) ?_
      simp [go_sem]
    · have e : (decide (0 ≤ n) && decide (n ≤ 15)) = false := by simpa using hn
      rw [e] at cR
      simp only [hn, and_false, if_false, if_true]
      refine Con.n1 _ ?_
      refine con_of_vc Try.mixed ⟨6, [], [], []⟩ Try.func55 (by decide) rfl (by simp) (by decide) (by simp [freshOK, freshL, go_sem]) ?_
      rw [Try.ntmps55]
      simp [go_sem]
      refine CallVC.of (cT) (by decide) ?_
      simp [go_sem]
      refine CallVC.of (cR) (by decide) ?_
      simp [go_sem]
end Go.Proofs.Ytoamidolomldnaa

/- Contracts: sums, multiples, products of series; the exponential series. -/
namespace Go.Proofs.Ytoamidolomldnaa
open Go.Abs
set_option linter.unusedVariables false
set_option linter.unusedSimpArgs false
set_option maxHeartbeats 1000000
/-- The first k values. -/
def tb (f : Nat → Int) (k : Nat) : List Int := (List.range k).map f
@[simp] theorem tb_len (f : Nat → Int) (k : Nat) : (tb f k).length = k := by simp [tb]
@[simp] theorem tb_zero (f : Nat → Int) : tb f 0 = [] := rfl
theorem tb_succ (f : Nat → Int) (k : Nat) : tb f (k + 1) = tb f k ++ [f k] := by simp [tb, List.range_succ]
theorem tb_get (f : Nat → Int) {k i : Nat} (h : i < k) : (tb f k)[i]?.getD 0 = f i := by simp [tb, h]
theorem tb_N {f : Nat → Int} {k : Nat} (h : ∀ i, i < k → isN (f i)) : Ns (tb f k) := by
  intro x hx
  simp [tb] at hx
  obtain ⟨i, hi, rfl⟩ := hx
  exact h i hi
theorem avs_at {xs : List Int} {k : Nat} (h : k < xs.length) : (avs xs)[k]? = some (AV.val (.int .i64 (xs[k]?.getD 0))) := by simp [avs, h]
theorem l02Times_c (a : List Int) (k : Int) (ha : Ns a) (hk : isN k) (hl : a.length ≤ 1048576) :
    Con Try.prog 87 [.sl a.length (avs a), .int k] (.own 2 a.length (avs (tb (fun i => a[i]?.getD 0 * k % 10007) a.length))) := by
  refine con_of_vc Try.mixed ⟨7, [], [], []⟩ Try.func87 (by decide) rfl (by simp) (by decide) (by simp [freshOK, freshL, go_sem]) ?_
  rw [Try.ntmps87]
  simp [go_sem]
  refine loop_inv (5 :: 6 :: List.range' 8 15) (fun i : Nat => [(5, .own 2 i (avs (tb (fun i => a[i]?.getD 0 * k % 10007) i))), (6, .int i)]) (fun i => i ≤ a.length) (fun i => a.length - i) 0 (by simp) (by simp [go_sem]) (by simp [go_sem]) ?_
  intro i hi
  simp [go_sem]
  refine ⟨fun h => ?_, fun h => ?_⟩ <;> simp at h
  · simp [go_sem, avs_drop h]
    refine ⟨⟨h, by rintro rfl; simp at h⟩, ?_⟩
    refine CallVC.of (l01Mul_c _ _ (mul_fits (ha.get i) hk)) (by decide) ?_
    simp [go_sem]
    refine ⟨⟨by omega, by omega⟩, by omega, i + 1, by omega, by omega, Off_reset _ _ _ (by simp), ?_, by omega⟩
    simp [tb_succ, avs_snoc]
  · have e : i = a.length := by omega
    subst e
    simp [go_sem]
theorem l02Add_c (a b : List Int) (ha : Ns a) (hb : Ns b) (hl : a.length ≤ 1048576) (hab : a.length ≤ b.length) :
    Con Try.prog 169 [.sl a.length (avs a), .sl b.length (avs b)] (.own 2 a.length (avs (tb (fun i => (a[i]?.getD 0 + b[i]?.getD 0) % 10007) a.length))) := by
  refine con_of_vc Try.mixed ⟨7, [], [], []⟩ Try.func169 (by decide) rfl (by simp) (by decide) (by simp [freshOK, freshL, go_sem]) ?_
  rw [Try.ntmps169]
  simp [go_sem]
  refine loop_inv (5 :: 6 :: List.range' 8 18) (fun i : Nat => [(5, .own 2 i (avs (tb (fun i => (a[i]?.getD 0 + b[i]?.getD 0) % 10007) i))), (6, .int i)]) (fun i => i ≤ a.length) (fun i => a.length - i) 0 (by simp) (by simp [go_sem]) (by simp [go_sem]) ?_
  intro i hi
  simp [go_sem]
  refine ⟨fun h => ?_, fun h => ?_⟩ <;> simp at h
  · have h2 : i < b.length := by omega
    simp [go_sem, avs_drop h, avs_drop h2]
    refine ⟨by kernel_rfl, ⟨h, by rintro rfl; simp at h⟩, ⟨h2, by rintro rfl; simp at h2⟩, ?_⟩
    refine CallD.of (l01Add_c _ _ (add_fits (ha.get i) (hb.get i))) (by simp [roots, rootsL]) (by decide) ?_
    simp [go_sem]
    refine ⟨by omega, ?_⟩
    refine ⟨by kernel_rfl, ?_⟩
    simp [go_sem]
    refine ⟨by omega, i + 1, by omega, by omega, Off_reset _ _ _ (by simp), ?_, by omega⟩
    simp [tb_succ, avs_snoc]
  · have e : i = a.length := by omega
    subst e
    simp [go_sem]
/-- The first m terms of the n-th coefficient of a product. -/
def cv (a b : List Int) (n : Nat) : Nat → Int
  | 0 => 0
  | m + 1 => cv a b n m + a[m]?.getD 0 * b[n - m]?.getD 0
def mulS (a b : List Int) : List Int := tb (fun n => cv a b n (n + 1) % 10007) a.length
@[simp] theorem mulS_len (a b : List Int) : (mulS a b).length = a.length := by simp [mulS]
theorem mulS_N (a b : List Int) : Ns (mulS a b) := tb_N fun i _ => isN_mod _
theorem l02Mul_c (a b : List Int) (ha : Ns a) (hb : Ns b) (hl : a.length ≤ 1048576) (hab : a.length ≤ b.length) :
    Con Try.prog 199 [.sl a.length (avs a), .sl b.length (avs b)] (.own 2 a.length (avs (mulS a b))) := by
  refine con_of_vc Try.mixed ⟨9, [], [], []⟩ Try.func199 (by decide) rfl (by simp) (by decide) (by simp [freshOK, freshL, go_sem]) ?_
  rw [Try.ntmps199]
  simp [go_sem]
  refine loop_inv (5 :: 6 :: 7 :: 8 :: List.range' 10 28) (fun i : Nat => [(5, .own 2 i (avs (tb (fun n => cv a b n (n + 1) % 10007) i))), (6, .int i)]) (fun i => i ≤ a.length) (fun i => a.length - i) 0 (by simp) (by simp [go_sem]) (by simp [go_sem]) ?_
  intro i hi
  simp [go_sem]
  refine ⟨fun h => ?_, fun h => ?_⟩ <;> simp at h
  · simp [go_sem]
    refine loop_inv (7 :: 8 :: List.range' 16 18) (fun k : Nat => [(7, .int (cv a b i k % 10007)), (8, .int k)]) (fun k => k ≤ i + 1) (fun k => i + 1 - k) 0 (by simp) (by simp [go_sem, cv]) (by simp [go_sem]) ?_
    intro k hk
    simp [go_sem]
    refine ⟨fun h => ?_, fun h => ?_⟩ <;> simp at h
    · have k1 : k < a.length := by omega
      have k2 : i - k < b.length := by omega
      have k3 : ((i : Int) - k) = ((i - k : Nat) : Int) := by omega
      simp [go_sem, avs_drop k1, avs_drop k2, k3]
      refine ⟨by kernel_rfl, ⟨k1, by rintro rfl; simp at k1⟩, by omega, ⟨k2, by rintro rfl; simp at k2⟩, ?_⟩
      refine CallD.of (l01Mul_c _ _ (mul_fits (ha.get k) (hb.get (i - k)))) (by simp [roots, rootsL]) (by decide) ?_
      simp [go_sem]
      refine CallD.of (l01Add_c _ _ (add_fits (isN_mod _) (isN_mod _))) (by simp [roots, rootsL]) (by decide) ?_
      simp [go_sem]
      refine ⟨by kernel_rfl, ?_⟩
      simp [go_sem]
      refine ⟨by omega, k + 1, by omega, by omega, Off_reset _ _ _ (by simp), ?_, by omega⟩
      simp [cv]
    · have e : k = i + 1 := by omega
      subst e
      simp [go_sem]
      refine ⟨by omega, by omega, i + 1, by omega, by omega, (Off.reset (by intro x hx; simp at hx ⊢; omega) (by simp) (by simp [go_sem, Off_reset])), ⟨rfl, ?_⟩, by omega⟩
      simp [tb_succ, avs_snoc]
  · have e : i = a.length := by omega
    subst e
    simp [go_sem]
    rfl
theorem l02Unit_c (n j : Nat) (hn : n ≤ 1048576) (hj : j ≤ 1048576) : Con Try.prog 113 [.int n, .int j] (.own 2 n (avs (tb (fun i => if i = j then 1 else 0) n))) := by
  refine con_of_vc Try.mixed ⟨6, [], [], []⟩ Try.func113 (by decide) rfl (by simp) (by decide) (by simp [freshOK, freshL, go_sem]) ?_
  rw [Try.ntmps113]
  simp [go_sem]
  refine ⟨⟨by omega, by omega⟩, ?_⟩
  refine ⟨fun h => ?_, fun h => ?_⟩ <;> simp at h
  · simp [go_sem]
    refine ⟨h, List.ext_getElem (by simp) fun k h1 h2 => ?_⟩
    simp [avs, tb, List.getElem_set]
    by_cases e : j = k
    · simp [e]
    · have e2 : ¬ k = j := fun h => e h.symm
      simp [e, e2]
  · simp [go_sem]
    refine List.ext_getElem (by simp) fun k h1 h2 => ?_
    simp at h1
    have e2 : ¬ k = j := by omega
    simp [avs, tb, e2]
/-- The sum over k from 1 to m of k times b(k) o(n - k). -/
def es (b o : List Int) (n : Nat) : Nat → Int
  | 0 => 0
  | m + 1 => es b o n m + (m + 1) * (b[m + 1]?.getD 0 * o[n - (m + 1)]?.getD 0 % 10007)
def expTo (b : List Int) : Nat → List Int
  | 0 => [1]
  | n + 1 => expTo b n ++ [es b (expTo b n) (n + 1) (n + 1) % 10007 * pw (n + 1) 10005 % 10007]
@[simp] theorem expTo_len (b : List Int) : ∀ n, (expTo b n).length = n + 1
  | 0 => rfl
  | n + 1 => by simp [expTo, expTo_len b n]
theorem expTo_N (b : List Int) : ∀ n, Ns (expTo b n)
  | 0 => by intro x hx; simp [expTo] at hx; subst hx; exact ⟨by omega, by omega⟩
  | n + 1 => (expTo_N b n).snoc (isN_mod _)
theorem es_step {r : Int} (h : isN r) {k : Nat} (hk : k < 1000) : 0 ≤ ((k : Int) + 1) * r ∧ ((k : Int) + 1) * r ≤ 10006000 :=
  ⟨Int.mul_nonneg (by omega) h.1, Int.le_trans (Int.mul_le_mul (by omega : (k : Int) + 1 ≤ 1000) (by have := h.2; omega : r ≤ 10006) h.1 (by omega)) (by omega)⟩
theorem es_bound (b o : List Int) (n : Nat) : ∀ m, m ≤ 1000 → 0 ≤ es b o n m ∧ es b o n m ≤ m * 10006000
  | 0, _ => by simp [es]
  | m + 1, h => by
    have := es_bound b o n m (by omega)
    have h2 := isN_mod (b[m + 1]?.getD 0 * o[n - (m + 1)]?.getD 0)
    have h3 : 0 ≤ ((m : Int) + 1) * (b[m + 1]?.getD 0 * o[n - (m + 1)]?.getD 0 % 10007) := Int.mul_nonneg (by omega) h2.1
    have h4 : ((m : Int) + 1) * (b[m + 1]?.getD 0 * o[n - (m + 1)]?.getD 0 % 10007) ≤ 1000 * 10006 := Int.mul_le_mul (by omega) (by have := h2.2; omega) h2.1 (by omega)
    simp only [es]; omega
theorem expSeries_c (b : List Int) (hb : Ns b) (h1 : 1 ≤ b.length) (hl : b.length ≤ 1000) : Con Try.prog 128 [.sl b.length (avs b)] (.own 2 b.length (avs (expTo b (b.length - 1)))) := by
  refine con_of_vc Try.mixed ⟨7, [], [], []⟩ Try.func128 (by decide) rfl (by simp) (by decide) (by simp [freshOK, freshL, go_sem]) ?_
  rw [Try.ntmps128]
  simp [go_sem]
  refine ⟨⟨by omega, by omega⟩, by omega, ?_⟩
  have i0 : (List.replicate b.length (AV.val (Value.int IntKind.i64 0))).set 0 (AV.val (Value.int IntKind.i64 1)) = avs (expTo b 0 ++ List.replicate (b.length - 1) 0) := by
    obtain ⟨m, hm⟩ : ∃ m, b.length = m + 1 := ⟨b.length - 1, by omega⟩
    rw [hm]; simp [List.replicate_succ, expTo, avs]
  refine loop_inv (3 :: 4 :: 5 :: 6 :: List.range' 12 36) (fun i : Nat => [(3, .own 2 b.length (avs (expTo b i ++ List.replicate (b.length - 1 - i) 0))), (4, .int (i + 1 : Nat))]) (fun i => i + 1 ≤ b.length) (fun i => b.length - i) 0 (by simp; omega) (by simp [go_sem]; exact i0) (by simp [go_sem]) ?_
  intro i hi
  simp [go_sem]
  refine ⟨fun h => ?_, fun h => ?_⟩ <;> simp at h
  · simp [go_sem]
    refine loop_inv (5 :: 6 :: List.range' 18 21) (fun k : Nat => [(5, .int (es b (expTo b i) (i + 1) k)), (6, .int (k + 1 : Nat))]) (fun k => k ≤ i + 1) (fun k => i + 1 - k) 0 (by simp) (by simp [go_sem, es]) (by simp [go_sem]) ?_
    intro k hk
    have bd := es_bound b (expTo b i) (i + 1) k (by omega)
    simp [go_sem]
    refine ⟨fun h => ?_, fun h => ?_⟩ <;> simp at h
    · have k1 : k + 1 < b.length := by omega
      have k2 : i - k < (expTo b i ++ List.replicate (b.length - 1 - i) 0).length := by simp; omega
      have k3 : ((i : Int) + 1 - (k + 1)) = ((i - k : Nat) : Int) := by omega
      have k4 : (expTo b i ++ List.replicate (b.length - 1 - i) 0)[i - k]?.getD 0 = (expTo b i)[i - k]?.getD 0 := by rw [List.getElem?_append_left (by simp; omega)]
      simp [go_sem, avs_drop k1, avs_at k2, k3, k4]
      refine ⟨by kernel_rfl, ⟨by omega, by omega, by rintro rfl; simp at h1⟩, by omega, by omega, mul_fits (hb.get _) ((expTo_N b i).get _), ?_⟩
      have m1 := isN_mod (b[k + 1]?.getD 0 * (expTo b i)[i - k]?.getD 0)
      refine CallD.of (num_c _ (mul_fits (hb.get _) ((expTo_N b i).get _)).1 (mul_fits (hb.get _) ((expTo_N b i).get _)).2) (by simp [roots, rootsL]) (by decide) ?_
      simp [go_sem]
      have m2 := es_step m1 (by omega : k < 1000)
      refine ⟨⟨by omega, by omega⟩, by omega, ?_⟩
      refine ⟨by kernel_rfl, ?_⟩
      simp [go_sem]
      refine ⟨by omega, k + 1, by omega, by omega, Off_reset _ _ _ (by simp), by simp [es], by omega⟩
    · have e : k = i + 1 := by omega
      subst e
      simp [go_sem]
      refine CallVC.of (num_c _ (by omega) (by omega)) (by decide) ?_
      simp [go_sem]
      refine CallVC.of (inv_c _ ⟨by omega, by omega⟩) (by decide) ?_
      simp [go_sem]
      have m1 : fits (es b (expTo b i) (i + 1) (i + 1) % 10007 * pw ((i : Int) + 1) 10005) := mul_fits (isN_mod _) (isN_mod _)
      refine ⟨m1, ?_⟩
      refine CallVC.of (num_c _ m1.1 m1.2) (by decide) ?_
      simp [go_sem]
      refine ⟨⟨by omega, by omega⟩, by omega, by omega, i + 1, by omega, by omega, (Off.reset (by intro x hx; simp at hx ⊢; omega) (by simp) (by simp [go_sem, Off_reset])), ?_, by omega⟩
      obtain ⟨m, hm⟩ : ∃ m, b.length - 1 - i = m + 1 := ⟨b.length - 1 - i - 1, by omega⟩
      have hm2 : b.length - 1 - (i + 1) = m := by omega
      rw [avs_set, hm, hm2, List.replicate_succ, List.set_append_right _ _ (by simp)]
      simp [expTo]
  · have e : i = b.length - 1 := by omega
    subst e
    simp [go_sem]
/-- The n-th power of b by the factorial of n, and the sum of the first ones. -/
def xpow (b : List Int) : Nat → List Int
  | 0 => tb (fun i => if i = 0 then 1 else 0) b.length
  | n + 1 => tb (fun i => (mulS (xpow b n) b)[i]?.getD 0 * pw ((n + 1 : Nat) : Int) 10005 % 10007) b.length
def xsum (b : List Int) : Nat → List Int
  | 0 => List.replicate b.length 0
  | n + 1 => tb (fun i => ((xsum b n)[i]?.getD 0 + (xpow b n)[i]?.getD 0) % 10007) b.length
@[simp] theorem xpow_len (b : List Int) : ∀ n, (xpow b n).length = b.length
  | 0 => by simp [xpow]
  | n + 1 => by simp [xpow]
@[simp] theorem xsum_len (b : List Int) : ∀ n, (xsum b n).length = b.length
  | 0 => by simp [xsum]
  | n + 1 => by simp [xsum]
theorem xpow_N (b : List Int) : ∀ n, Ns (xpow b n)
  | 0 => tb_N fun i _ => by split <;> exact ⟨by omega, by omega⟩
  | n + 1 => tb_N fun i _ => isN_mod _
theorem xsum_N (b : List Int) : ∀ n, Ns (xsum b n)
  | 0 => by intro x hx; simp [xsum, List.mem_replicate] at hx; rw [hx.2]; exact ⟨by omega, by omega⟩
  | n + 1 => tb_N fun i _ => isN_mod _
theorem l02Exp_c (b : List Int) (hb : Ns b) (hl : b.length ≤ 1000) : Con Try.prog 112 [.sl b.length (avs b)] (.own 2 b.length (avs (xsum b b.length))) := by
  refine con_of_vc Try.mixed ⟨6, [], [], []⟩ Try.func112 (by decide) rfl (by simp) (by decide) (by simp [freshOK, freshL, go_sem]) ?_
  rw [Try.ntmps112]
  simp [go_sem]
  refine ⟨by kernel_rfl, ?_⟩
  refine CallD.of (l02Unit_c b.length 0 (by omega) (by omega)) (by simp [roots, rootsL]) (by decide) ?_
  simp [go_sem]
  refine ⟨⟨by omega, by omega⟩, ?_⟩
  refine ⟨by kernel_rfl, ?_⟩
  simp [go_sem]
  refine loop_inv (3 :: 4 :: 5 :: List.range' 12 15) (fun i : Nat => [(3, .own 2 b.length (avs (xpow b i))), (4, .own 2 b.length (avs (xsum b i))), (5, .int (i + 1 : Nat))]) (fun i => i ≤ b.length) (fun i => b.length - i) 0 (by simp) (by simp [go_sem, xpow, xsum, avs_repl]) (by simp [go_sem]) ?_
  intro i hi
  have ca := l02Add_c (xsum b i) (xpow b i) (xsum_N b i) (xpow_N b i) (by simp; omega) (by simp)
  have cm := l02Mul_c (xpow b i) b (xpow_N b i) hb (by simp; omega) (by simp)
  have ct := l02Times_c (mulS (xpow b i) b) (pw ((i + 1 : Nat) : Int) 10005) (mulS_N _ _) (isN_mod _) (by simp; omega)
  simp only [xsum_len, xpow_len, mulS_len] at ca cm ct
  simp [go_sem]
  refine ⟨fun h => ?_, fun h => ?_⟩ <;> simp at h
  · simp [go_sem]
    refine CallVC.of (ca) (by decide) ?_
    simp [go_sem]
    refine CallVC.of (cm) (by decide) ?_
    simp [go_sem]
    refine CallVC.of (l01Inv_c _ ⟨by omega, by omega⟩) (by decide) ?_
    simp [go_sem]
    refine CallVC.of (ct) (by decide) ?_
    simp [go_sem]
    refine ⟨⟨by omega, by omega⟩, i + 1, by omega, by omega, Off_reset _ _ _ (by simp), ?_, ?_, by omega⟩
    · simp [xpow]
    · simp [xsum]
  · have e : i = b.length := by omega
    subst e
    simp [go_sem]
def uni : List Int := tb (fun i => if i = 1 then 1 else 0) 16
@[simp] theorem uni_len : uni.length = 16 := rfl
theorem uni_N : Ns uni := tb_N fun i _ => by split <;> exact ⟨by omega, by omega⟩
def expU : List Int := expTo uni 15
@[simp] theorem expU_len : expU.length = 16 := rfl
theorem ExponentialTo_c : Con Try.prog 41 [.int 15] (.tup [.own 2 16 (avs expU), .int 0]) := by
  have ce : Con Try.prog 128 [.sl 16 (avs uni)] (.own 2 16 (avs expU)) := expSeries_c uni uni_N (by decide) (by decide)
  refine con_of_vc Try.mixed ⟨5, [], [], []⟩ Try.func41 (by decide) rfl (by simp) (by decide) (by simp [freshOK, freshL, go_sem]) ?_
  rw [Try.ntmps41]
  simp [go_sem]
  refine CallVC.of (inRange_c 15 0 15) (by decide) ?_
  simp [go_sem]
  refine CallVC.of (ce) (by decide) ?_
  simp [go_sem]
theorem expU_eq : xsum uni 16 = expU := by decide +kernel
theorem specExpU_c : Con Try.prog 112 [.sl 16 (avs uni)] (.own 2 16 (avs expU)) := by
  rw [← expU_eq]
  exact l02Exp_c uni uni_N (by decide)
theorem specUni_c : Con Try.prog 113 [.int 16, .int 1] (.own 2 16 (avs uni)) := l02Unit_c 16 1 (by omega) (by omega)
end Go.Proofs.Ytoamidolomldnaa

/- Contracts: the sources of draws. -/
namespace Go.Proofs.Ytoamidolomldnaa
open Go.Abs
set_option linter.unusedVariables false
set_option linter.unusedSimpArgs false
set_option maxHeartbeats 1000000
/-- Bytes, as cells. -/
def bys (c : List Int) : List AV := c.map fun x => .val (.int .u8 x)
@[simp] theorem bys_len (c : List Int) : (bys c).length = c.length := by simp [bys]
theorem bys_drop {c : List Int} {k : Nat} (h : k < c.length) : (bys c).drop k = .val (.int .u8 (c[k]?.getD 0)) :: bys (c.drop (k + 1)) := by
  rw [bys, ← List.map_drop, List.drop_eq_getElem_cons h, List.map_cons]; simp [h, bys]
def Byt (c : List Int) : Prop := c.length ≤ 4096 ∧ ∀ x ∈ c, 0 ≤ x ∧ x ≤ 255
theorem Byt.get {c : List Int} (h : Byt c) (k : Nat) : 0 ≤ c[k]?.getD 0 ∧ c[k]?.getD 0 ≤ 255 := by
  rcases Nat.lt_or_ge k c.length with hk | hk
  · simp [hk]; exact h.2 _ (List.getElem_mem hk)
  · simp [hk]
/-- A source: how far its code has been read, its hash. -/
abbrev Src := Nat × Int
def srcA (c : List Int) (σ : Src) : AV := .box 183 [.sl c.length (bys c), .int σ.1, .val (.int .u64 σ.2)]
def dicA (c : List Int) (σ : Src) : AV := .box 145 [.sl c.length (bys c), .int σ.1, .val (.int .u64 σ.2)]
def nxH (h : Int) : Int := IntKind.u64.wrap (IntKind.u64.wrap (h * 6364136223846793005) + 1442695040888963407)
def nxX (h : Int) : Int := andI IntKind.u64 (shrI IntKind.u64 (nxH h) 33) 16777215
def byV (c : List Int) (k : Nat) : Int := if k < c.length then c[k]?.getD 0 else 0
def nx1 (c : List Int) (σ : Src) (n : Int) : Int := if n < 1 then 0 else (nxX σ.2 + byV c σ.1).tmod n
def nx2 (c : List Int) (σ : Src) (n : Int) : Src := if n < 1 then σ else (if σ.1 < c.length then σ.1 + 1 else σ.1, nxH σ.2)
def SOk (σ : Src) : Prop := σ.1 ≤ 4096
theorem nx2_ok {c : List Int} (hc : Byt c) {σ : Src} (h : SOk σ) (n : Int) : SOk (nx2 c σ n) := by
  unfold SOk nx2 at *
  have := hc.1
  split
  · exact h
  · simp only; split <;> omega
theorem nxX_b (h : Int) : 0 ≤ nxX h ∧ nxX h ≤ 16777215 := by
  unfold nxX andI
  generalize shrI IntKind.u64 (nxH h) 33 = y
  have h1 : (BitVec.ofInt IntKind.u64.bits y &&& BitVec.ofInt IntKind.u64.bits 16777215).toNat ≤ 16777215 := by
    rw [BitVec.toNat_and]
    exact Nat.le_trans Nat.and_le_right (by decide)
  generalize (BitVec.ofInt IntKind.u64.bits y &&& BitVec.ofInt IntKind.u64.bits 16777215).toNat = m at *
  simp [IntKind.wrap, IntKind.signed, IntKind.bits]
  omega
theorem byV_b {c : List Int} (hc : Byt c) (k : Nat) : 0 ≤ byV c k ∧ byV c k ≤ 255 := by
  unfold byV
  split
  · exact hc.get k
  · omega
theorem nx1_b {c : List Int} (hc : Byt c) (σ : Src) {n : Int} (hn : 1 ≤ n) : 0 ≤ nx1 c σ n ∧ nx1 c σ n < n := by
  have h1 := nxX_b σ.2
  have h2 := byV_b hc σ.1
  unfold nx1
  rw [if_neg (by omega), Int.tmod_eq_emod_of_nonneg (by omega)]
  exact ⟨Int.emod_nonneg _ (by omega), Int.emod_lt_of_pos _ (by omega)⟩
set_option maxRecDepth 100000 in
theorem l01Next_c (c : List Int) (σ : Src) (n : Int) (hc : Byt c) (hs : SOk σ) : GCon Try.prog 110 [srcA c σ, .int n] (.int (nx1 c σ n)) [srcA c (nx2 c σ n), .any] := by
  have hx := nxX_b σ.2
  have hy := byV_b hc σ.1
  have hcl := hc.1
  unfold SOk at hs
  unfold nx1 nx2
  by_cases h0 : n < 1
  · rw [if_pos h0, if_pos h0]
    unfold srcA
    refine gcon_of_vc Try.mixed ⟨6, [], [], []⟩ [4] [0] Try.func110 (by decide) rfl rfl (by simp) (by simp) (by decide) ?_
    rw [Try.ntmps110]
    simp [go_sem]
    simp [go_sem, h0]
  · rw [if_neg h0, if_neg h0]
    unfold srcA
    have e1 : nxH σ.2 = IntKind.u64.wrap (IntKind.u64.wrap (σ.2 * 6364136223846793005) + 1442695040888963407) := rfl
    have e2 : nxX σ.2 = andI IntKind.u64 (shrI IntKind.u64 (nxH σ.2) 33) 16777215 := rfl
    generalize nxX σ.2 = x at *
    generalize nxH σ.2 = h' at *
    have n0 : ¬ n = 0 := by omega
    by_cases hk : σ.1 < c.length
    · have hb : byV c σ.1 = c[σ.1]?.getD 0 := by unfold byV; rw [if_pos hk]
      have hne : ¬ c = [] := by rintro rfl; simp at hk
      rw [if_pos hk]
      rw [hb] at hy ⊢
      refine gcon_of_vc Try.mixed ⟨6, [], [], []⟩ [4] [0] Try.func110 (by decide) rfl rfl (by simp) (by simp) (by decide) ?_
      rw [Try.ntmps110]
      simp [go_sem]
      simp [go_sem, h0, ← e1, ← e2]
      refine ⟨⟨by omega, by omega⟩, by kernel_rfl, ?_⟩
      refine ⟨by kernel_rfl, ?_⟩
      simp [go_sem]
      have hD := bys_drop hk
      generalize c[σ.1]?.getD 0 = b at *
      simp [go_sem, hk, hD]
      refine ⟨by kernel_rfl, by intro e; exact hne (by simpa [bys] using e), ⟨by omega, by omega⟩, ⟨by omega, by omega⟩, ?_⟩
      refine ⟨by kernel_rfl, ?_⟩
      simp [go_sem]
      exact ⟨⟨by omega, by omega⟩, n0⟩
    · have hb : byV c σ.1 = 0 := by unfold byV; rw [if_neg hk]
      rw [if_neg hk]
      rw [hb] at hy ⊢
      refine gcon_of_vc Try.mixed ⟨6, [], [], []⟩ [4] [0] Try.func110 (by decide) rfl rfl (by simp) (by simp) (by decide) ?_
      rw [Try.ntmps110]
      simp [go_sem]
      simp [go_sem, h0, ← e1, ← e2]
      refine ⟨⟨by omega, by omega⟩, by kernel_rfl, ?_⟩
      refine ⟨by kernel_rfl, ?_⟩
      simp [go_sem]
      simp [go_sem, hk]
      exact n0
set_option maxRecDepth 100000 in
theorem below_c (c : List Int) (σ : Src) (n : Int) (hc : Byt c) (hs : SOk σ) : GCon Try.prog 138 [dicA c σ, .int n] (.int (nx1 c σ n)) [dicA c (nx2 c σ n), .any] := by
  have hx := nxX_b σ.2
  have hy := byV_b hc σ.1
  have hcl := hc.1
  unfold SOk at hs
  unfold nx1 nx2
  by_cases h0 : n < 1
  · rw [if_pos h0, if_pos h0]
    unfold dicA
    refine gcon_of_vc Try.mixed ⟨6, [], [], []⟩ [4] [0] Try.func138 (by decide) rfl rfl (by simp) (by simp) (by decide) ?_
    rw [Try.ntmps138]
    simp [go_sem]
    simp [go_sem, h0]
  · rw [if_neg h0, if_neg h0]
    unfold dicA
    have e1 : nxH σ.2 = IntKind.u64.wrap (IntKind.u64.wrap (σ.2 * 6364136223846793005) + 1442695040888963407) := rfl
    have e2 : nxX σ.2 = andI IntKind.u64 (shrI IntKind.u64 (nxH σ.2) 33) 16777215 := rfl
    generalize nxX σ.2 = x at *
    generalize nxH σ.2 = h' at *
    have n0 : ¬ n = 0 := by omega
    by_cases hk : σ.1 < c.length
    · have hb : byV c σ.1 = c[σ.1]?.getD 0 := by unfold byV; rw [if_pos hk]
      have hne : ¬ c = [] := by rintro rfl; simp at hk
      rw [if_pos hk]
      rw [hb] at hy ⊢
      refine gcon_of_vc Try.mixed ⟨6, [], [], []⟩ [4] [0] Try.func138 (by decide) rfl rfl (by simp) (by simp) (by decide) ?_
      rw [Try.ntmps138]
      simp [go_sem]
      simp [go_sem, h0, ← e1, ← e2]
      refine ⟨⟨by omega, by omega⟩, by kernel_rfl, ?_⟩
      refine ⟨by kernel_rfl, ?_⟩
      simp [go_sem]
      have hD := bys_drop hk
      generalize c[σ.1]?.getD 0 = b at *
      simp [go_sem, hk, hD]
      refine ⟨by kernel_rfl, by intro e; exact hne (by simpa [bys] using e), ⟨by omega, by omega⟩, ⟨by omega, by omega⟩, ?_⟩
      refine ⟨by kernel_rfl, ?_⟩
      simp [go_sem]
      exact ⟨⟨by omega, by omega⟩, n0⟩
    · have hb : byV c σ.1 = 0 := by unfold byV; rw [if_neg hk]
      rw [if_neg hk]
      rw [hb] at hy ⊢
      refine gcon_of_vc Try.mixed ⟨6, [], [], []⟩ [4] [0] Try.func138 (by decide) rfl rfl (by simp) (by simp) (by decide) ?_
      rw [Try.ntmps138]
      simp [go_sem]
      simp [go_sem, h0, ← e1, ← e2]
      refine ⟨⟨by omega, by omega⟩, by kernel_rfl, ?_⟩
      refine ⟨by kernel_rfl, ?_⟩
      simp [go_sem]
      simp [go_sem, hk]
      exact n0
theorem getI {xs : List Int} {v : Int} (h0 : 0 ≤ v) (h1 : v < xs.length) : ∃ k : Nat, v = k ∧ k < xs.length ∧ v.toNat = k := ⟨v.toNat, by omega, by omega, rfl⟩
def pk (c : List Int) (σ : Src) (xs : List Int) : Int := xs[(nx1 c σ xs.length).toNat]?.getD 0
theorem pk_mem (c : List Int) (hc : Byt c) (σ : Src) {xs : List Int} (hx : 0 < xs.length) : pk c σ xs ∈ xs := by
  have h := nx1_b hc σ (n := xs.length) (by omega)
  unfold pk
  have hk : (nx1 c σ xs.length).toNat < xs.length := by omega
  simp [hk]
set_option maxRecDepth 100000 in
theorem l01Pick_c (c : List Int) (σ : Src) (xs : List Int) (hc : Byt c) (hs : SOk σ) (hx : 0 < xs.length) (hxl : xs.length ≤ 1000) :
    GCon Try.prog 114 [srcA c σ, .own 2 xs.length (avs xs)] (.int (pk c σ xs)) [srcA c (nx2 c σ xs.length), .any] := by
  have cN := l01Next_c c σ xs.length hc hs
  have hb := nx1_b hc σ (n := xs.length) (by omega)
  unfold pk
  obtain ⟨k, hk, hkl, hkt⟩ := getI hb.1 hb.2
  rw [hkt]
  rw [hk] at cN
  unfold srcA at *
  refine gcon_of_vc Try.mixed ⟨5, [], [1000000 + 110], []⟩ [4] [0] Try.func114 (by decide) rfl rfl (by simp) (by simp) (by decide) ?_
  rw [Try.ntmps114]
  simp [go_sem]
  refine ⟨_, _, cN, ?_⟩
  simp [go_sem]
  have hA := avs_at hkl
  simp [go_sem, hA]
  exact hkl
theorem l01Frac_c (p q : Int) (hp : fits p) (hq : fits q) : Con Try.prog 266 [.int p, .int q] (.int (p % 10007 * pw (q % 10007) 10005 % 10007)) := by
  have hf : fits (p % 10007 * pw (q % 10007) 10005) := mul_fits (isN_mod _) (isN_mod _)
  refine con_of_vc Try.mixed ⟨5, [], [], []⟩ Try.func266 (by decide) rfl (by simp) (by decide) (by simp [freshOK, freshL, go_sem]) ?_
  rw [Try.ntmps266]
  simp [go_sem]
  refine CallVC.of (l01Mod_c p hp.1 hp.2) (by decide) ?_
  simp [go_sem]
  refine CallVC.of (l01Mod_c q hq.1 hq.2) (by decide) ?_
  simp [go_sem]
  refine CallVC.of (l01Inv_c _ (isN_mod q)) (by decide) ?_
  simp [go_sem]
  refine CallVC.of (l01Mul_c _ _ hf) (by decide) ?_
  simp [go_sem]
/-- A number that is drawn. -/
def nbV (c : List Int) (σ : Src) : Int × Src :=
  if nx1 c σ 5 = 0 then (nx1 c (nx2 c σ 5) 10007, nx2 c (nx2 c σ 5) 10007)
  else if nx1 c σ 5 = 1 then (pk c (nx2 c σ 5) [0, 1, 0, 1, 10006, 2], nx2 c (nx2 c σ 5) 6)
  else ((nx1 c (nx2 c σ 5) 15 - 7) % 10007 * pw ((1 + nx1 c (nx2 c (nx2 c σ 5) 15) 12) % 10007) 10005 % 10007, nx2 c (nx2 c (nx2 c σ 5) 15) 12)
theorem nbV_ok {c : List Int} (hc : Byt c) {σ : Src} (hs : SOk σ) : isN (nbV c σ).1 ∧ SOk (nbV c σ).2 := by
  have s1 := nx2_ok hc hs 5
  unfold nbV
  split
  · exact ⟨nx1_b hc (nx2 c σ 5) (n := 10007) (by omega), nx2_ok hc s1 _⟩
  · split
    · refine ⟨?_, nx2_ok hc s1 _⟩
      have := pk_mem c hc (nx2 c σ 5) (xs := [0, 1, 0, 1, 10006, 2]) (by simp)
      simp at this
      simp only
      constructor <;> omega
    · exact ⟨isN_mod _, nx2_ok hc (nx2_ok hc s1 _) _⟩
set_option maxRecDepth 100000 in
theorem l01Number_c (c : List Int) (σ : Src) (hc : Byt c) (hs : SOk σ) : GCon Try.prog 246 [srcA c σ] (.int (nbV c σ).1) [srcA c (nbV c σ).2] := by
  have s1 := nx2_ok hc hs 5
  have s2 := nx2_ok hc s1 15
  have c1 := l01Next_c c σ 5 hc hs
  have c2 := l01Next_c c (nx2 c σ 5) 10007 hc s1
  have c3 := l01Pick_c c (nx2 c σ 5) [0, 1, 0, 1, 10006, 2] hc s1 (by simp) (by simp)
  have c4 := l01Next_c c (nx2 c σ 5) 15 hc s1
  have c5 := l01Next_c c (nx2 c (nx2 c σ 5) 15) 12 hc s2
  have b4 := nx1_b hc (nx2 c σ 5) (n := 15) (by omega)
  have b5 := nx1_b hc (nx2 c (nx2 c σ 5) 15) (n := 12) (by omega)
  have c6 := l01Frac_c (nx1 c (nx2 c σ 5) 15 - 7) (1 + nx1 c (nx2 c (nx2 c σ 5) 15) 12) ⟨by omega, by omega⟩ ⟨by omega, by omega⟩
  unfold nbV
  have e3 : (([0, 1, 0, 1, 10006, 2] : List Int).length : Int) = 6 := rfl
  rw [e3] at c3
  generalize pk c (nx2 c σ 5) [0, 1, 0, 1, 10006, 2] = pv at *
  generalize nx1 c (nx2 c (nx2 c σ 5) 15) 12 = v5 at *
  generalize nx2 c (nx2 c (nx2 c σ 5) 15) 12 = t5 at *
  generalize nx1 c (nx2 c σ 5) 15 = v4 at *
  generalize nx2 c (nx2 c σ 5) 15 = t4 at *
  generalize nx2 c (nx2 c σ 5) 6 = t3 at *
  generalize nx1 c (nx2 c σ 5) 10007 = v2 at *
  generalize nx2 c (nx2 c σ 5) 10007 = t2 at *
  generalize nx1 c σ 5 = v1 at *
  generalize nx2 c σ 5 = t1 at *
  unfold srcA at *
  by_cases h0 : v1 = 0
  · rw [if_pos h0]
    refine gcon_of_vc Try.mixed ⟨3, [], [1000000 + 110, 1000000 + 114], []⟩ [2] [0] Try.func246 (by decide) rfl rfl (by simp) (by simp) (by decide) ?_
    rw [Try.ntmps246]
    simp [go_sem]
    refine ⟨_, _, c1, ?_⟩
    simp [go_sem]
    simp [go_sem, h0]
    refine ⟨_, _, c2, ?_⟩
    simp [go_sem]
  · rw [if_neg h0]
    by_cases h1 : v1 = 1
    · rw [if_pos h1]
      refine gcon_of_vc Try.mixed ⟨3, [], [1000000 + 110, 1000000 + 114], []⟩ [2] [0] Try.func246 (by decide) rfl rfl (by simp) (by simp) (by decide) ?_
      rw [Try.ntmps246]
      simp [go_sem]
      refine ⟨_, _, c1, ?_⟩
      simp [go_sem]
      simp [go_sem, h0, h1]
      refine ⟨_, _, c3, ?_⟩
      simp [go_sem]
    · rw [if_neg h1]
      refine gcon_of_vc Try.mixed ⟨3, [], [1000000 + 110, 1000000 + 114], []⟩ [2] [0] Try.func246 (by decide) rfl rfl (by simp) (by simp) (by decide) ?_
      rw [Try.ntmps246]
      simp [go_sem]
      refine ⟨_, _, c1, ?_⟩
      simp [go_sem]
      simp [go_sem, h0, h1]
      refine ⟨_, _, c4, ?_⟩
      simp [go_sem]
      refine ⟨⟨by omega, by omega⟩, ?_⟩
      refine ⟨_, _, c5, ?_⟩
      simp [go_sem]
      refine ⟨⟨by omega, by omega⟩, ?_⟩
      refine CallVC.of (c6) (by decide) ?_
      simp [go_sem]
theorem mod5_c (n : Int) (h0 : -9223372036854775808 ≤ n) (h1 : n ≤ 9223372036854775807) : Con Try.prog 37 [.int n] (.int (n % 10007)) := by
  have e := num_law n
  have b := num_low n
  refine con_of_vc Try.mixed ⟨3, [], [], []⟩ Try.func37 (by decide) rfl (by simp) (by decide) (by simp [freshOK, freshL, go_sem]) ?_
  rw [Try.ntmps37]
  simp [go_sem]
  simp [go_sem, e]
  omega
def n5V (c : List Int) (σ : Src) : Int × Src :=
  if nx1 c σ 2 = 0 then (nx1 c (nx2 c σ 2) 10007, nx2 c (nx2 c σ 2) 10007)
  else ((nx1 c (nx2 c σ 2) 9 - 4) % 10007, nx2 c (nx2 c σ 2) 9)
theorem n5V_ok {c : List Int} (hc : Byt c) {σ : Src} (hs : SOk σ) : isN (n5V c σ).1 ∧ SOk (n5V c σ).2 := by
  have s1 := nx2_ok hc hs 2
  unfold n5V
  split
  · exact ⟨nx1_b hc (nx2 c σ 2) (n := 10007) (by omega), nx2_ok hc s1 _⟩
  · exact ⟨isN_mod _, nx2_ok hc s1 _⟩
set_option maxRecDepth 100000 in
theorem number5_c (c : List Int) (σ : Src) (hc : Byt c) (hs : SOk σ) : GCon Try.prog 48 [dicA c σ] (.int (n5V c σ).1) [dicA c (n5V c σ).2] := by
  have s1 := nx2_ok hc hs 2
  have c1 := below_c c σ 2 hc hs
  have c2 := below_c c (nx2 c σ 2) 10007 hc s1
  have c4 := below_c c (nx2 c σ 2) 9 hc s1
  have b4 := nx1_b hc (nx2 c σ 2) (n := 9) (by omega)
  have c6 := mod5_c (nx1 c (nx2 c σ 2) 9 - 4) (by omega) (by omega)
  unfold n5V
  generalize nx1 c (nx2 c σ 2) 9 = v4 at *
  generalize nx2 c (nx2 c σ 2) 9 = t4 at *
  generalize nx1 c (nx2 c σ 2) 10007 = v2 at *
  generalize nx2 c (nx2 c σ 2) 10007 = t2 at *
  generalize nx1 c σ 2 = v1 at *
  generalize nx2 c σ 2 = t1 at *
  unfold dicA at *
  by_cases h0 : v1 = 0
  · rw [if_pos h0]
    refine gcon_of_vc Try.mixed ⟨3, [], [1000000 + 138], []⟩ [2] [0] Try.func48 (by decide) rfl rfl (by simp) (by simp) (by decide) ?_
    rw [Try.ntmps48]
    simp [go_sem]
    refine ⟨_, _, c1, ?_⟩
    simp [go_sem]
    simp [go_sem, h0]
    refine ⟨_, _, c2, ?_⟩
    simp [go_sem]
  · rw [if_neg h0]
    refine gcon_of_vc Try.mixed ⟨3, [], [1000000 + 138], []⟩ [2] [0] Try.func48 (by decide) rfl rfl (by simp) (by simp) (by decide) ?_
    rw [Try.ntmps48]
    simp [go_sem]
    refine ⟨_, _, c1, ?_⟩
    simp [go_sem]
    simp [go_sem, h0]
    refine ⟨_, _, c4, ?_⟩
    simp [go_sem]
    refine ⟨⟨by omega, by omega⟩, ?_⟩
    refine CallVC.of (c6) (by decide) ?_
    simp [go_sem]
/-- Lists that are drawn. -/
def lsV (f : Src → Int × Src) : Nat → Src → List Int × Src
  | 0, σ => ([], σ)
  | n + 1, σ => ((f σ).1 :: (lsV f n (f σ).2).1, (lsV f n (f σ).2).2)
theorem lsV_ok {f : Src → Int × Src} (hf : ∀ σ, SOk σ → isN (f σ).1 ∧ SOk (f σ).2) : ∀ (n : Nat) (σ : Src), SOk σ → (lsV f n σ).1.length = n ∧ Ns (lsV f n σ).1 ∧ SOk (lsV f n σ).2
  | 0, σ, h => ⟨rfl, by simp [lsV, Ns], h⟩
  | n + 1, σ, h => by
    have h1 := hf σ h
    have h2 := lsV_ok hf n _ h1.2
    refine ⟨by simp [lsV, h2.1], fun x hx => ?_, h2.2.2⟩
    rcases List.mem_cons.1 hx with rfl | hx
    · exact h1.1
    · exact h2.2.1 x hx
set_option maxRecDepth 100000 in
theorem l01List_c (c : List Int) (σ : Src) (n : Nat) (hc : Byt c) (hs : SOk σ) (hn : n ≤ 100000) :
    GCon Try.prog 198 [srcA c σ, .int n] (.own 2 n (avs (lsV (nbV c) n σ).1)) [srcA c (lsV (nbV c) n σ).2, .any] := by
  unfold srcA
  refine gcon_of_vc Try.mixed ⟨6, [], [1000000 + 246], []⟩ [4] [0] Try.func198 (by decide) rfl rfl (by simp) (by simp) (by decide) ?_
  rw [Try.ntmps198]
  simp [go_sem]
  refine loop_inv (0 :: 1 :: 5 :: List.range' 7 9) (fun x : List Int × Src × Nat => [(0, .box 183 [.sl c.length (bys c), .int x.2.1.1, .val (.int .u64 x.2.1.2)]), (1, .int x.2.2), (5, .own 2 x.1.length (avs x.1))]) (fun x => SOk x.2.1 ∧ x.1.length + x.2.2 = n ∧ x.1 ++ (lsV (nbV c) x.2.2 x.2.1).1 = (lsV (nbV c) n σ).1 ∧ (lsV (nbV c) x.2.2 x.2.1).2 = (lsV (nbV c) n σ).2) (fun x => x.2.2) ([], σ, n) ⟨hs, by simp, rfl, rfl⟩ (by simp [go_sem, avs]) (by simp [go_sem]) ?_
  rintro ⟨acc, τ, k⟩ ⟨h1, h2, h3, h4⟩
  simp only at h1 h2 h3 h4
  simp [go_sem]
  refine ⟨fun h => ?_, fun h => ?_⟩ <;> simp at h
  · obtain ⟨j, rfl⟩ : ∃ j, k = j + 1 := ⟨k - 1, by omega⟩
    have cN := l01Number_c c τ hc h1
    have hok := nbV_ok hc h1
    unfold srcA at cN
    simp only [lsV] at h3 h4
    generalize nbV c τ = r at *
    simp [go_sem]
    refine ⟨_, _, cN, ?_⟩
    simp [go_sem]
    refine ⟨⟨by omega, by omega⟩, by omega, acc ++ [r.1], r.2.1, r.2.2, j, ⟨hok.2, by simp; omega, by simpa using h3, h4⟩, by omega, Off_reset _ _ _ (by simp), ?_⟩
    simp [avs]
  · have e : k = 0 := by omega
    subst e
    simp only [lsV, List.append_nil] at h3 h4
    simp [go_sem]
    rw [← h3, ← h4]
    simp at h2
    simp [h2]
set_option maxRecDepth 100000 in
theorem list5_c (c : List Int) (σ : Src) (n : Nat) (hc : Byt c) (hs : SOk σ) (hn : n ≤ 100000) :
    GCon Try.prog 49 [dicA c σ, .int n] (.own 2 n (avs (lsV (n5V c) n σ).1)) [dicA c (lsV (n5V c) n σ).2, .any] := by
  unfold dicA
  refine gcon_of_vc Try.mixed ⟨6, [], [1000000 + 48], []⟩ [4] [0] Try.func49 (by decide) rfl rfl (by simp) (by simp) (by decide) ?_
  rw [Try.ntmps49]
  simp [go_sem]
  refine loop_inv (0 :: 1 :: 5 :: List.range' 7 9) (fun x : List Int × Src × Nat => [(0, .box 145 [.sl c.length (bys c), .int x.2.1.1, .val (.int .u64 x.2.1.2)]), (1, .int x.2.2), (5, .own 2 x.1.length (avs x.1))]) (fun x => SOk x.2.1 ∧ x.1.length + x.2.2 = n ∧ x.1 ++ (lsV (n5V c) x.2.2 x.2.1).1 = (lsV (n5V c) n σ).1 ∧ (lsV (n5V c) x.2.2 x.2.1).2 = (lsV (n5V c) n σ).2) (fun x => x.2.2) ([], σ, n) ⟨hs, by simp, rfl, rfl⟩ (by simp [go_sem, avs]) (by simp [go_sem]) ?_
  rintro ⟨acc, τ, k⟩ ⟨h1, h2, h3, h4⟩
  simp only at h1 h2 h3 h4
  simp [go_sem]
  refine ⟨fun h => ?_, fun h => ?_⟩ <;> simp at h
  · obtain ⟨j, rfl⟩ : ∃ j, k = j + 1 := ⟨k - 1, by omega⟩
    have cN := number5_c c τ hc h1
    have hok := n5V_ok hc h1
    unfold dicA at cN
    simp only [lsV] at h3 h4
    generalize n5V c τ = r at *
    simp [go_sem]
    refine ⟨_, _, cN, ?_⟩
    simp [go_sem]
    refine ⟨⟨by omega, by omega⟩, by omega, acc ++ [r.1], r.2.1, r.2.2, j, ⟨hok.2, by simp; omega, by simpa using h3, h4⟩, by omega, Off_reset _ _ _ (by simp), ?_⟩
    simp [avs]
  · have e : k = 0 := by omega
    subst e
    simp only [lsV, List.append_nil] at h3 h4
    simp [go_sem]
    rw [← h3, ← h4]
    simp at h2
    simp [h2]
set_option maxRecDepth 100000 in
/-- Where a source begins. -/
theorem l01From_r (c : List Int) (hc : Byt c) : RCon Try.prog 109 [.sl c.length (bys c)] (fun r o => o = [.any] ∧ ∃ h, r = srcA c (0, h)) := by
  have hcl := hc.1
  unfold srcA
  refine rcon_of_vcH Try.mixed ⟨5, [], [], []⟩ [] Try.func109 (by decide) rfl (by simp) (by simp) (by decide) ?_
  rw [Try.ntmps109]
  simp [go_sem]
  refine loop_inv (3 :: 4 :: List.range' 12 25) (fun x : Nat × Int => [(3, .box 183 [.sl c.length (bys c), .int 0, .val (.int .u64 x.2)]), (4, .int x.1)]) (fun x => x.1 ≤ c.length) (fun x => c.length - x.1) (0, IntKind.u64.wrap (5381 + IntKind.u64.wrap c.length)) (by simp) (by simp [go_sem]) (by simp [go_sem]) ?_
  rintro ⟨i, h⟩ hi
  simp only at hi
  by_cases hic : i < c.length
  · have h4 : (i : Int) < 4096 := by omega
    have hne : ¬ c = [] := by rintro rfl; simp at hic
    have hD := bys_drop hic
    have hb := hc.get i
    generalize c[i]?.getD 0 = b at *
    simp [go_sem, hic, h4, hD]
    refine ⟨by kernel_rfl, by intro e; exact hne (by simpa [bys] using e), ?_⟩
    refine ⟨by kernel_rfl, ?_⟩
    simp [go_sem]
    exact ⟨⟨by omega, by omega⟩, i + 1, by omega, by omega, Off_reset _ _ _ (by simp), by omega⟩
  · simp [go_sem, hic]
set_option maxRecDepth 100000 in
theorem roll_r (c : List Int) (sd : Int) (hc : Byt c) : RCon Try.prog 47 [.sl c.length (bys c), .val (.int .u64 sd)] (fun r o => o = [.any, .any] ∧ ∃ h, r = dicA c (0, h)) := by
  have hcl := hc.1
  unfold dicA
  refine rcon_of_vcH Try.mixed ⟨7, [], [], []⟩ [] Try.func47 (by decide) rfl (by simp) (by simp) (by decide) ?_
  rw [Try.ntmps47]
  simp [go_sem]
  refine loop_inv (5 :: 6 :: List.range' 16 21) (fun x : Nat × Int => [(5, .box 145 [.sl c.length (bys c), .int 0, .val (.int .u64 x.2)]), (6, .int x.1)]) (fun x => x.1 ≤ c.length) (fun x => c.length - x.1) (0, IntKind.u64.wrap (IntKind.u64.wrap (sd * 8111) + IntKind.u64.wrap c.length)) (by simp) (by simp [go_sem]) (by simp [go_sem]) ?_
  rintro ⟨i, h⟩ hi
  simp only at hi
  by_cases hic : i < c.length
  · have h4 : (i : Int) < 4096 := by omega
    have hne : ¬ c = [] := by rintro rfl; simp at hic
    have hD := bys_drop hic
    have hb := hc.get i
    generalize c[i]?.getD 0 = b at *
    simp [go_sem, hic, hD]
    refine ⟨by kernel_rfl, by intro e; exact hne (by simpa [bys] using e), ?_⟩
    refine ⟨by kernel_rfl, ?_⟩
    simp [go_sem]
    exact ⟨⟨by omega, by omega⟩, i + 1, by omega, by omega, Off_reset _ _ _ (by simp), by omega⟩
  · simp [go_sem, hic]
set_option maxRecDepth 100000 in
theorem likeInts_c (a b : List Int) (ha : a.length ≤ 9223372036854775807) : Con Try.prog 36 [.sl a.length (avs a), .sl b.length (avs b)] (.bool (decide (a = b))) := by
  by_cases hl : a.length = b.length
  · refine con_of_vc Try.mixed ⟨6, [], [], []⟩ Try.func36 (by decide) rfl (by simp) (by decide) (by simp [freshOK, freshL, go_sem]) ?_
    rw [Try.ntmps36]
    simp [go_sem]
    simp [go_sem, hl]
    refine loop_inv (4 :: 5 :: List.range' 11 15) (fun i : Nat => [(5, .int i)]) (fun i => i ≤ a.length ∧ ∀ j, j < i → a[j]?.getD 0 = b[j]?.getD 0) (fun i => a.length - i) 0 (by simp) (by simp [go_sem]) (by simp [go_sem]) ?_
    rintro i ⟨hi, hj⟩
    simp [go_sem]
    refine ⟨fun h => ?_, fun h => ?_⟩ <;> simp at h
    · have hia : i < a.length := by omega
      have hib : i < b.length := by omega
      have na : ¬ a = [] := by rintro rfl; simp at hia
      have nb : ¬ b = [] := by rintro rfl; simp at hib
      simp [go_sem, avs_drop hia, avs_drop hib]
      refine ⟨by kernel_rfl, ⟨hib, na⟩, ⟨hib, nb⟩, ?_⟩
      refine ⟨by kernel_rfl, ?_⟩
      simp [go_sem]
      refine ⟨fun h2 => ?_, fun h2 => ?_⟩ <;> simp at h2
      · have e : ¬ a = b := fun e => h2 (by rw [e])
        simp [go_sem, e]
      · simp [go_sem]
        refine ⟨by omega, i + 1, ⟨by omega, fun j hj2 => ?_⟩, by omega, Off_reset _ _ _ (by simp), by omega⟩
        rcases Nat.lt_or_ge j i with h3 | h3
        · exact hj j h3
        · have : j = i := by omega
          subst this
          exact h2
    · have e : a = b := by
        refine List.ext_getElem hl fun k h1 h2 => ?_
        have := hj k (by omega)
        simpa [h1, h2] using this
      simp [go_sem, e]
  · have e : ¬ a = b := fun e => hl (by rw [e])
    have hl2 : ¬ (a.length : Int) = b.length := by omega
    refine con_of_vc Try.mixed ⟨6, [], [], []⟩ Try.func36 (by decide) rfl (by simp) (by decide) (by simp [freshOK, freshL, go_sem]) ?_
    rw [Try.ntmps36]
    simp [go_sem]
    simp [go_sem, hl2, e]
def tm5 (a : List Int) (k : Int) : List Int := a.map fun x => x * k % 10007
@[simp] theorem tm5_len (a : List Int) (k : Int) : (tm5 a k).length = a.length := by simp [tm5]
theorem tm5_N (a : List Int) (k : Int) : Ns (tm5 a k) := fun x hx => by
  obtain ⟨y, _, rfl⟩ := List.mem_map.1 hx
  exact isN_mod _
theorem tm5_take {a : List Int} {k : Int} {i : Nat} (h : i < a.length) : tm5 (a.take (i + 1)) k = tm5 (a.take i) k ++ [a[i]?.getD 0 * k % 10007] := by
  rw [tm5, tm5, List.take_add_one, List.map_append, List.getElem?_eq_getElem h]; rfl
theorem tm5_get {a : List Int} {k : Int} {i : Nat} (h : i < a.length) : (tm5 a k)[i]?.getD 0 = a[i]?.getD 0 * k % 10007 := by simp [tm5, h]
def pl5 (a b : List Int) : List Int := (List.range a.length).map fun i => (a[i]?.getD 0 + b[i]?.getD 0) % 10007
@[simp] theorem pl5_len (a b : List Int) : (pl5 a b).length = a.length := by simp [pl5]
theorem pl5_N (a b : List Int) : Ns (pl5 a b) := fun x hx => by
  obtain ⟨y, _, rfl⟩ := List.mem_map.1 hx
  exact isN_mod _
theorem pl5_get {a b : List Int} {i : Nat} (h : i < a.length) : (pl5 a b)[i]?.getD 0 = (a[i]?.getD 0 + b[i]?.getD 0) % 10007 := by simp [pl5, h]
theorem pl5_take {a b : List Int} {i : Nat} (h : i < a.length) : (pl5 a b).take (i + 1) = (pl5 a b).take i ++ [(a[i]?.getD 0 + b[i]?.getD 0) % 10007] := by
  have hl : i < (pl5 a b).length := by simpa using h
  rw [List.take_add_one, List.getElem?_eq_getElem hl]
  simp [pl5]
set_option maxRecDepth 100000 in
theorem times5_c (a : List Int) (k : Int) (ha : a.length ≤ 1048576) (hN : Ns a) (hk : isN k) : Con Try.prog 51 [.sl a.length (avs a), .int k] (.own 2 a.length (avs (tm5 a k))) := by
  refine con_of_vc Try.mixed ⟨7, [], [], []⟩ Try.func51 (by decide) rfl (by simp) (by decide) (by simp [freshOK, freshL, go_sem]) ?_
  rw [Try.ntmps51]
  simp [go_sem]
  refine loop_inv (5 :: 6 :: List.range' 8 16) (fun i : Nat => [(5, .own 2 i (avs (tm5 (a.take i) k))), (6, .int i)]) (fun i => i ≤ a.length) (fun i => a.length - i) 0 (by simp) (by simp [go_sem, tm5, avs]) (by simp [go_sem]) ?_
  intro i hi
  simp [go_sem]
  refine ⟨fun h => ?_, fun h => ?_⟩ <;> simp at h
  · have hif := h
    have hf := mul_fits (hN.get i) hk
    have ht := tm5_take (k := k) hif
    simp [go_sem, avs_drop hif]
    refine ⟨⟨hif, by rintro rfl; simp at hif⟩, hf, ?_⟩
    refine CallVC.of (mod5_c _ hf.1 hf.2) (by decide) ?_
    simp [go_sem]
    refine ⟨⟨by omega, by omega⟩, by omega, i + 1, by omega, by omega, Off_reset _ _ _ (by simp), ?_, by omega⟩
    rw [ht]
    simp [avs]
  · have e : i = a.length := by omega
    subst e
    simp [go_sem]
set_option maxRecDepth 100000 in
theorem plus5_c (a b : List Int) (ha : a.length ≤ 1048576) (hab : a.length = b.length) (hN : Ns a) (hM : Ns b) : Con Try.prog 50 [.sl a.length (avs a), .sl b.length (avs b)] (.own 2 a.length (avs (pl5 a b))) := by
  refine con_of_vc Try.mixed ⟨7, [], [], []⟩ Try.func50 (by decide) rfl (by simp) (by decide) (by simp [freshOK, freshL, go_sem]) ?_
  rw [Try.ntmps50]
  simp [go_sem]
  refine loop_inv (5 :: 6 :: List.range' 8 25) (fun i : Nat => [(5, .own 2 i (avs ((pl5 a b).take i))), (6, .int i)]) (fun i => i ≤ a.length) (fun i => a.length - i) 0 (by simp) (by simp [go_sem, avs]) (by simp [go_sem]) ?_
  intro i hi
  by_cases hif : i < a.length
  · have hib : i < b.length := by omega
    have hf := add_fits (hN.get i) (hM.get i)
    have ht := pl5_take (b := b) hif
    have hD := avs_drop hif
    have hE := avs_drop hib
    rw [List.getD_eq_getElem?_getD] at hD hE
    have na : ¬ a = [] := by rintro rfl; simp at hif
    have nb : ¬ b = [] := by rintro rfl; simp at hib
    generalize a[i]?.getD 0 = u at *
    generalize b[i]?.getD 0 = v at *
    simp [go_sem, hif, hib, hD, hE]
    refine ⟨by kernel_rfl, na, nb, hf, ?_⟩
    refine CallD.of (mod5_c _ hf.1 hf.2) (by simp [roots, rootsL]) (by decide) ?_
    simp [go_sem]
    refine ⟨⟨by omega, by omega, by omega⟩, ?_⟩
    refine ⟨by kernel_rfl, ?_⟩
    simp [go_sem]
    refine ⟨by omega, i + 1, by omega, by omega, Off_reset _ _ _ (by simp), ?_, by omega⟩
    rw [ht]
    simp [avs]
  · have e : i = a.length := by omega
    subst e
    simp [go_sem]
    rw [List.take_of_length_le (by simp)]
end Go.Proofs.Ytoamidolomldnaa

/- Fields: how they lie; their sizes. -/
namespace Go.Proofs.Ytoamidolomldnaa
open Go.Abs
set_option linter.unusedVariables false
set_option linter.unusedSimpArgs false
set_option maxHeartbeats 1000000
abbrev Mon := Int × List Int
def mons (p : List Mon) : List AV := p.flatMap fun m => [.int m.1, .sl m.2.length (avs m.2)]
def omons (p : List Mon) : List AV := p.flatMap fun m => [.int m.1, .own 2 m.2.length (avs m.2)]
def prt (f : List (List Mon)) : List AV := f.map fun p => .sl p.length (mons p)
def oprt (f : List (List Mon)) : List AV := f.map fun p => .own 179 p.length (omons p)
theorem mons_cons (m : Mon) (p : List Mon) : mons (m :: p) = .int m.1 :: .sl m.2.length (avs m.2) :: mons p := rfl
theorem omons_cons (m : Mon) (p : List Mon) : omons (m :: p) = .int m.1 :: .own 2 m.2.length (avs m.2) :: omons p := rfl
@[simp] theorem mons_nil : mons [] = [] := rfl
@[simp] theorem omons_nil : omons [] = [] := rfl
@[simp] theorem mons_len : ∀ p : List Mon, (mons p).length = p.length * 2
  | [] => rfl
  | m :: p => by rw [mons_cons]; simp [mons_len p]; omega
@[simp] theorem omons_len : ∀ p : List Mon, (omons p).length = p.length * 2
  | [] => rfl
  | m :: p => by rw [omons_cons]; simp [omons_len p]; omega
@[simp] theorem mons_ne {p : List Mon} : (mons p = []) = (p = []) := by cases p <;> simp [mons_cons]
@[simp] theorem prt_len (f : List (List Mon)) : (prt f).length = f.length := by simp [prt]
@[simp] theorem oprt_len (f : List (List Mon)) : (oprt f).length = f.length := by simp [oprt]
@[simp] theorem prt_ne {f : List (List Mon)} : (prt f = []) = (f = []) := by cases f <;> simp [prt]
@[simp] theorem omons_frz : ∀ p : List Mon, frzL (omons p) = mons p
  | [] => rfl
  | m :: p => by rw [omons_cons, mons_cons]; simp [frzL, frz, omons_frz p]
@[simp] theorem mons_frz : ∀ p : List Mon, frzL (mons p) = mons p
  | [] => rfl
  | m :: p => by rw [mons_cons]; simp [frzL, frz, mons_frz p]
@[simp] theorem omons_fresh : ∀ p : List Mon, freshL (omons p) = true
  | [] => rfl
  | m :: p => by rw [omons_cons]; simp [freshL, freshOK, omons_fresh p]
@[simp] theorem oprt_frz : ∀ f : List (List Mon), frzL (oprt f) = prt f
  | [] => rfl
  | p :: f => by have := oprt_frz f; simp only [oprt, prt, List.map_cons, frzL] at this ⊢; rw [this]; simp [frz]
@[simp] theorem oprt_fresh : ∀ f : List (List Mon), freshL (oprt f) = true
  | [] => rfl
  | p :: f => by have := oprt_fresh f; simp only [oprt, List.map_cons, freshL] at this ⊢; rw [this]; simp [freshOK]
theorem mons_drop : ∀ {p : List Mon} {k : Nat}, k < p.length → (mons p).drop (k * 2) = .val (.int .i64 (p[k]?.getD (0, [])).1) :: .sl (p[k]?.getD (0, [])).2.length (avs (p[k]?.getD (0, [])).2) :: mons (p.drop (k + 1))
  | m :: p, 0, _ => rfl
  | m :: p, k + 1, h => by
    have := mons_drop (p := p) (k := k) (by simpa using h)
    rw [mons_cons, show (k + 1) * 2 = k * 2 + 1 + 1 by omega]
    simpa using this
theorem prt_drop {f : List (List Mon)} {k : Nat} (h : k < f.length) : (prt f).drop k = .sl (f[k]?.getD []).length (mons (f[k]?.getD [])) :: prt (f.drop (k + 1)) := by
  rw [prt, ← List.map_drop, List.drop_eq_getElem_cons h, List.map_cons]; simp [h, prt]
/-- What is left behind a list. -/
def szG {α : Type} (g : Int → α → Int) : Int → List α → Int
  | left, [] => left
  | left, a :: l => if g left a < 0 then -1 else szG g (g left a) l
def szA {α : Type} (g : Int → α → Int) (left : Int) (l : List α) : Int := if left - l.length < 0 then -1 else szG g (left - l.length) l
def sumC {α : Type} (c : α → Nat) : List α → Nat
  | [] => 0
  | a :: l => c a + sumC c l
structure SzOk {α : Type} (g : Int → α → Int) (c : α → Nat) : Prop where
  lo : ∀ l a, -1 ≤ g l a
  hi : ∀ l a, 0 ≤ l → g l a ≤ l
  ok : ∀ l a, 0 ≤ l → 0 ≤ g l a → (c a : Int) ≤ l - g l a
theorem szG_lo {α : Type} {g : Int → α → Int} {c : α → Nat} (h : SzOk g c) : ∀ (l : List α) (left : Int), 0 ≤ left → -1 ≤ szG g left l ∧ szG g left l ≤ left ∧ (0 ≤ szG g left l → (sumC c l : Int) ≤ left - szG g left l)
  | [], left, h0 => by simp [szG, sumC]; omega
  | a :: l, left, h0 => by
    rw [szG]
    have h1 := h.hi left a h0
    split
    · exact ⟨by omega, by omega, by omega⟩
    · rename_i h2
      have := szG_lo h l (g left a) (by omega)
      refine ⟨this.1, by omega, fun h3 => ?_⟩
      have h4 := this.2.2 h3
      have h5 := h.ok left a h0 (by omega)
      rw [sumC]; omega
theorem szA_ok {α : Type} {g : Int → α → Int} {c : α → Nat} (h : SzOk g c) : SzOk (szA g) (fun l => l.length + sumC c l) := by
  refine ⟨fun l a => ?_, fun l a h0 => ?_, fun l a h0 h1 => ?_⟩ <;> unfold szA at * <;> split
  · omega
  · exact (szG_lo h a _ (by omega)).1
  · omega
  · have := (szG_lo h a (l - a.length) (by omega)).2.1; omega
  · rename_i h2; rw [if_pos h2] at h1; omega
  · rename_i h2
    rw [if_neg h2] at h1
    have := (szG_lo h a (l - a.length) (by omega)).2.2 h1
    push_cast; omega
theorem szR_ok : SzOk (fun l (m : Mon) => szR l m.2.length) (fun m => m.2.length) := by
  refine ⟨fun l a => szR_ge _ _, fun l a h0 => szR_le (by omega) (by omega), fun l a h0 h1 => ?_⟩
  unfold szR at h1 ⊢
  split at h1
  · omega
  · rename_i h2; rw [if_neg h2]; omega
theorem sumC_mem {α : Type} (c : α → Nat) : ∀ {l : List α} {a : α}, a ∈ l → c a ≤ sumC c l
  | b :: l, a, h => by
    rw [sumC]
    rcases List.mem_cons.1 h with rfl | h
    · omega
    · have := sumC_mem c h; omega
def cM (m : Mon) : Nat := m.2.length
def cP (p : List Mon) : Nat := p.length + sumC cM p
def cF (f : List (List Mon)) : Nat := f.length + sumC cP f
def szMn (l : Int) (m : Mon) : Int := szR l m.2.length
def szP : Int → List Mon → Int := szA szMn
def szF : Int → List (List Mon) → Int := szA szP
theorem szMn_ok : SzOk szMn cM := szR_ok
theorem szP_ok : SzOk szP cP := szA_ok szMn_ok
theorem szF_ok : SzOk szF cF := szA_ok szP_ok
theorem szMonomial_c (m : Mon) (left : Int) (hn : m.2.length ≤ 9223372036854775807) (h0 : 0 ≤ left) (h1 : left ≤ 9223372036854775807) :
    Con Try.prog 261 [.agg [.int m.1, .sl m.2.length (avs m.2)], .int left] (.int (szMn left m)) := by
  refine con_of_vc Try.mixed ⟨5, [], [], []⟩ Try.func261 (by decide) rfl (by simp) (by decide) (by simp [freshOK, freshL, go_sem]) ?_
  rw [Try.ntmps261]
  simp [go_sem]
  refine CallVC.of (szInt64S_c _ _ left hn (by omega) h1) (by decide) ?_
  simp [go_sem]
  have := szR_ge left m.2.length
  unfold szMn
  by_cases h2 : szR left m.2.length < 0
  · simp [go_sem, h2]
    omega
  · simp [go_sem, h2]
theorem szMonomialS_c (p : List Mon) (left : Int) (hn : p.length ≤ 9223372036854775807) (hr : ∀ m ∈ p, m.2.length ≤ 9223372036854775807) (h0 : 0 ≤ left) (h1 : left ≤ 9223372036854775807) :
    Con Try.prog 237 [.sl p.length (mons p), .int left] (.int (szP left p)) := by
  refine con_of_vc Try.mixed ⟨6, [], [], []⟩ Try.func237 (by decide) rfl (by simp) (by decide) (by simp [freshOK, freshL, go_sem]) ?_
  rw [Try.ntmps237]
  simp [go_sem]
  refine ⟨by omega, fun h => ?_, fun h => ?_⟩ <;> simp at h <;> simp [go_sem]
  · unfold szP szA; rw [if_pos (by omega)]
  have e1 : szP left p = szG szMn (left - p.length) p := by unfold szP szA; rw [if_neg (by omega)]
  refine loop_inv (1 :: List.range' 4 30) (fun x : Nat × Int => [(1, .int x.2), (5, .int x.1)]) (fun x => x.1 ≤ p.length ∧ 0 ≤ x.2 ∧ x.2 ≤ left ∧ szG szMn x.2 (p.drop x.1) = szP left p) (fun x => p.length - x.1) (0, left - p.length) (by simp; omega) (by simp [go_sem]) (by simp [go_sem]) ?_
  rintro ⟨i, l⟩ ⟨hi, hl0, hl1, he⟩
  simp only at hi hl0 hl1 he
  simp [go_sem]
  refine ⟨fun h => ?_, fun h => ?_⟩ <;> simp at h
  · have hx : p[i]?.getD (0, []) ∈ p := by simp [h]
    have hd : p.drop i = p[i]?.getD (0, []) :: p.drop (i + 1) := by rw [List.drop_eq_getElem_cons h]; simp [h]
    have hm := hr _ hx
    simp [go_sem, mons_drop h]
    refine ⟨⟨h, by rintro rfl; simp at h⟩, ?_⟩
    try refine ⟨by omega, ?_⟩
    refine CallVC.of (szMonomial_c _ _ hm hl0 (by omega)) (by decide) ?_
    simp [go_sem]
    have k1 := szMn_ok.lo l (p[i]?.getD (0, []))
    have k2 := szMn_ok.hi l (p[i]?.getD (0, [])) hl0
    rw [hd, szG] at he
    refine ⟨fun h2 => ?_, fun h2 => ?_⟩ <;> simp at h2 <;> simp [go_sem]
    · rw [if_pos h2] at he; exact he
    · rw [if_neg (by omega)] at he
      refine ⟨by omega, i + 1, _, ⟨by omega, h2, by omega, he⟩, by omega, Off_reset _ _ _ (by simp), rfl, by omega⟩
  · simp [go_sem]
    rw [List.drop_eq_nil_of_le h] at he
    exact he

theorem szMonomialSS_c (p : List (List Mon)) (left : Int) (hn : p.length ≤ 9223372036854775807) (hr : ∀ m ∈ p, m.length ≤ 9223372036854775807 ∧ ∀ q ∈ m, q.2.length ≤ 9223372036854775807) (h0 : 0 ≤ left) (h1 : left ≤ 9223372036854775807) :
    Con Try.prog 184 [.sl p.length (prt p), .int left] (.int (szF left p)) := by
  refine con_of_vc Try.mixed ⟨6, [], [], []⟩ Try.func184 (by decide) rfl (by simp) (by decide) (by simp [freshOK, freshL, go_sem]) ?_
  rw [Try.ntmps184]
  simp [go_sem]
  refine ⟨by omega, fun h => ?_, fun h => ?_⟩ <;> simp at h <;> simp [go_sem]
  · unfold szF szA; rw [if_pos (by omega)]
  have e1 : szF left p = szG szP (left - p.length) p := by unfold szF szA; rw [if_neg (by omega)]
  refine loop_inv (1 :: List.range' 4 30) (fun x : Nat × Int => [(1, .int x.2), (5, .int x.1)]) (fun x => x.1 ≤ p.length ∧ 0 ≤ x.2 ∧ x.2 ≤ left ∧ szG szP x.2 (p.drop x.1) = szF left p) (fun x => p.length - x.1) (0, left - p.length) (by simp; omega) (by simp [go_sem]) (by simp [go_sem]) ?_
  rintro ⟨i, l⟩ ⟨hi, hl0, hl1, he⟩
  simp only at hi hl0 hl1 he
  simp [go_sem]
  refine ⟨fun h => ?_, fun h => ?_⟩ <;> simp at h
  · have hx : p[i]?.getD [] ∈ p := by simp [h]
    have hd : p.drop i = p[i]?.getD [] :: p.drop (i + 1) := by rw [List.drop_eq_getElem_cons h]; simp [h]
    have hm := hr _ hx
    simp [go_sem, prt_drop h]
    refine ⟨⟨h, by rintro rfl; simp at h⟩, ?_⟩
    refine CallVC.of (szMonomialS_c _ _ hm.1 hm.2 hl0 (by omega)) (by decide) ?_
    simp [go_sem]
    have k1 := szP_ok.lo l (p[i]?.getD [])
    have k2 := szP_ok.hi l (p[i]?.getD []) hl0
    rw [hd, szG] at he
    refine ⟨fun h2 => ?_, fun h2 => ?_⟩ <;> simp at h2 <;> simp [go_sem]
    · rw [if_pos h2] at he; exact he
    · rw [if_neg (by omega)] at he
      refine ⟨by omega, i + 1, _, ⟨by omega, h2, by omega, he⟩, by omega, Off_reset _ _ _ (by simp), rfl, by omega⟩
  · simp [go_sem]
    rw [List.drop_eq_nil_of_le h] at he
    exact he

/-- That a field's lengths fit. -/
def Fit (f : List (List Mon)) : Prop := f.length ≤ 9223372036854775807 ∧ ∀ p ∈ f, p.length ≤ 9223372036854775807 ∧ ∀ q ∈ p, q.2.length ≤ 9223372036854775807
theorem szField_c (z : Int) (f : List (List Mon)) (left : Int) (hf : Fit f) (h0 : 0 ≤ left) (h1 : left ≤ 9223372036854775807) :
    Con Try.prog 99 [.agg [.int z, .sl f.length (prt f)], .int left] (.int (szF left f)) := by
  refine con_of_vc Try.mixed ⟨5, [], [], []⟩ Try.func99 (by decide) rfl (by simp) (by decide) (by simp [freshOK, freshL, go_sem]) ?_
  rw [Try.ntmps99]
  simp [go_sem]
  refine CallVC.of (szMonomialSS_c f left hf.1 hf.2 h0 h1) (by decide) ?_
  simp [go_sem]
  have := szF_ok.lo left f
  by_cases h2 : szF left f < 0
  · simp [go_sem, h2]
    omega
  · simp [go_sem, h2]
end Go.Proofs.Ytoamidolomldnaa

/- Fields: copies, comparisons, marks. -/
namespace Go.Proofs.Ytoamidolomldnaa
open Go.Abs
set_option linter.unusedVariables false
set_option linter.unusedSimpArgs false
set_option maxHeartbeats 1000000
theorem toMonomial_c (m : Mon) (hl : m.2.length ≤ 1048576) :
    Con Try.prog 262 [.agg [.int m.1, .sl m.2.length (avs m.2)]] (.agg [.int m.1, .own 2 m.2.length (avs m.2)]) := by
  refine con_of_vc Try.mixed ⟨4, [], [], []⟩ Try.func262 (by decide) rfl (by simp) (by decide) (by simp [freshOK, freshL, go_sem]) ?_
  rw [Try.ntmps262]
  simp [go_sem]
  refine CallVC.of (toInt64S_c m.2 hl) (by decide) ?_
  simp [go_sem]
def zer (k : Nat) : List AV := (List.replicate k [AV.val (.int .i64 0), AV.val (.slice none 0 0)]).flatten
@[simp] theorem zer_len (k : Nat) : (zer k).length = k * 2 := by
  induction k with
  | zero => rfl
  | succ k ih => unfold zer at ih ⊢; rw [List.replicate_succ, List.flatten_cons]; simp [ih]; omega
theorem zer_succ (k : Nat) : zer (k + 1) = .val (.int .i64 0) :: .val (.slice none 0 0) :: zer k := by simp [zer, List.replicate_succ]
theorem omons_app (p q : List Mon) : omons (p ++ q) = omons p ++ omons q := by simp [omons]
theorem fill2 (p : List Mon) (i : Nat) (h : i < p.length) : ((omons (p.take i) ++ zer (p.length - i)).set (i * 2) (.int (p[i]?.getD (0, [])).1)).set (i * 2 + 1) (.own 2 (p[i]?.getD (0, [])).2.length (avs (p[i]?.getD (0, [])).2)) = omons (p.take (i + 1)) ++ zer (p.length - (i + 1)) := by
  obtain ⟨k, hk⟩ : ∃ k, p.length - i = k + 1 := ⟨p.length - i - 1, by omega⟩
  have hl : (omons (p.take i)).length = i * 2 := by simp; omega
  have e1 : i * 2 - i * 2 = 0 := by omega
  have e2 : i * 2 + 1 - i * 2 = 1 := by omega
  have e3 : p.take (i + 1) = p.take i ++ [p[i]?.getD (0, [])] := by rw [List.take_add_one]; simp [h]
  rw [show p.length - (i + 1) = k by omega, hk, zer_succ, List.set_append_right _ _ (by omega), List.set_append_right _ _ (by omega), hl, e1, e2, e3, omons_app]
  simp [omons]
theorem toMonomialS_c (p : List Mon) (hl : p.length ≤ 1048576) (hr : ∀ m ∈ p, m.2.length ≤ 1048576) :
    Con Try.prog 239 [.sl p.length (mons p)] (.own 179 p.length (omons p)) := by
  refine con_of_vc Try.mixed ⟨5, [], [], []⟩ Try.func239 (by decide) rfl (by simp) (by decide) (by simp [freshOK, freshL, go_sem]) ?_
  rw [Try.ntmps239]
  simp [go_sem]
  refine ⟨by omega, ?_⟩
  refine loop_inv (3 :: 4 :: List.range' 8 14) (fun i : Nat => [(3, .own 179 p.length (omons (p.take i) ++ zer (p.length - i))), (4, .int i)]) (fun i => i ≤ p.length) (fun i => p.length - i) 0 (by simp) (by simp [go_sem]; rfl) (by simp [go_sem]) ?_
  intro i hi
  simp [go_sem]
  refine ⟨fun h => ?_, fun h => ?_⟩ <;> simp at h
  · have hx : p[i]?.getD (0, []) ∈ p := by simp [h]
    have hm := hr _ hx
    simp [go_sem, mons_drop h]
    refine ⟨⟨h, by rintro rfl; simp at h⟩, ?_⟩
    refine CallVC.of (toMonomial_c _ hm) (by decide) ?_
    simp [go_sem]
    refine ⟨h, ⟨by omega, fun _ => ?_⟩, by omega, i + 1, by omega, by omega, Off_reset _ _ _ (by simp), fill2 p i h, by omega⟩
    obtain ⟨q, hq⟩ : ∃ q, p.length - i = q + 1 := ⟨p.length - i - 1, by omega⟩
    rw [hq, zer_succ]; simp
  · simp [go_sem]
    have e : i = p.length := by omega
    subst e
    simp [zer]
theorem toMonomialSS_c (f : List (List Mon)) (hl : f.length ≤ 1048576) (hr : ∀ p ∈ f, p.length ≤ 1048576 ∧ ∀ m ∈ p, m.2.length ≤ 1048576) :
    Con Try.prog 191 [.sl f.length (prt f)] (.own 177 f.length (oprt f)) := by
  refine con_of_vc Try.mixed ⟨5, [], [], []⟩ Try.func191 (by decide) rfl (by simp) (by decide) (by simp [freshOK, freshL, go_sem]) ?_
  rw [Try.ntmps191]
  simp [go_sem]
  refine ⟨by omega, ?_⟩
  refine loop_inv (3 :: 4 :: List.range' 8 14) (fun i : Nat => [(3, .own 177 f.length (oprt (f.take i) ++ List.replicate (f.length - i) (.val (.slice none 0 0)))), (4, .int i)]) (fun i => i ≤ f.length) (fun i => f.length - i) 0 (by simp) (by simp [go_sem, oprt]) (by simp [go_sem]) ?_
  intro i hi
  simp [go_sem]
  refine ⟨fun h => ?_, fun h => ?_⟩ <;> simp at h
  · have hx : f[i]?.getD [] ∈ f := by simp [h]
    have hm := hr _ hx
    simp [go_sem, prt_drop h]
    refine ⟨⟨h, by rintro rfl; simp at h⟩, ?_⟩
    refine CallVC.of (toMonomialS_c _ hm.1 hm.2) (by decide) ?_
    simp [go_sem]
    refine ⟨h, by omega, by omega, i + 1, by omega, by omega, Off_reset _ _ _ (by simp), ?_, by omega⟩
    have e1 : ∀ k, oprt (f.take k) = (oprt f).take k := fun k => by simp [oprt, List.map_take]
    have := fill_step (oprt f) (.val (.slice none 0 0)) (.own 179 (f[i]?.getD []).length (omons (f[i]?.getD []))) i (by simpa using h) (by simp [oprt, h])
    rw [oprt_len] at this
    rw [e1, e1]
    exact this
  · simp [go_sem]
    have e : i = f.length := by omega
    subst e; simp
theorem toField_c (z : Int) (f : List (List Mon)) (hl : f.length ≤ 1048576) (hr : ∀ p ∈ f, p.length ≤ 1048576 ∧ ∀ m ∈ p, m.2.length ≤ 1048576) :
    Con Try.prog 104 [.agg [.int z, .sl f.length (prt f)]] (.agg [.int z, .own 177 f.length (oprt f)]) := by
  refine con_of_vc Try.mixed ⟨4, [], [], []⟩ Try.func104 (by decide) rfl (by simp) (by decide) (by simp [freshOK, freshL, go_sem]) ?_
  rw [Try.ntmps104]
  simp [go_sem]
  refine CallVC.of (toMonomialSS_c f hl hr) (by decide) ?_
  simp [go_sem]
theorem eqMonomial_c (m : Mon) (hl : m.2.length ≤ 9223372036854775807) :
    Con Try.prog 265 [.agg [.int m.1, .sl m.2.length (avs m.2)], .agg [.int m.1, .sl m.2.length (avs m.2)]] (.bool true) := by
  have ce := eqInt64S_c m.2 m.2 hl
  simp at ce
  refine con_of_vc Try.mixed ⟨5, [], [], []⟩ Try.func265 (by decide) rfl (by simp) (by decide) (by simp [freshOK, freshL, go_sem]) ?_
  rw [Try.ntmps265]
  simp [go_sem]
  refine CallVC.of (ce) (by decide) ?_
  simp [go_sem]
theorem eqMonomialS_c (p : List Mon) (hl : p.length ≤ 9223372036854775807) (hr : ∀ m ∈ p, m.2.length ≤ 9223372036854775807) :
    Con Try.prog 245 [.sl p.length (mons p), .sl p.length (mons p)] (.bool true) := by
  refine con_of_vc Try.mixed ⟨6, [], [], []⟩ Try.func245 (by decide) rfl (by simp) (by decide) (by simp [freshOK, freshL, go_sem]) ?_
  rw [Try.ntmps245]
  simp [go_sem]
  refine loop_inv (4 :: 5 :: List.range' 11 16) (fun i : Nat => [(5, .int i)]) (fun i => i ≤ p.length) (fun i => p.length - i) 0 (by simp) (by simp [go_sem]) (by simp [go_sem]) ?_
  intro i hi
  simp [go_sem]
  refine ⟨fun h => ?_, fun h => ?_⟩ <;> simp at h
  · have hx : p[i]?.getD (0, []) ∈ p := by simp [h]
    simp [go_sem, mons_drop h]
    refine ⟨by kernel_rfl, ⟨h, by rintro rfl; simp at h⟩, ?_⟩
    refine CallD.of (eqMonomial_c _ (hr _ hx)) (by simp [roots, rootsL]) (by decide) ?_
    simp [go_sem]
    refine ⟨by kernel_rfl, ?_⟩
    simp [go_sem]
    refine ⟨by omega, i + 1, by omega, by omega, Off_reset _ _ _ (by simp), by omega⟩
  · simp [go_sem]
theorem eqMonomialSS_c (f : List (List Mon)) (hf : Fit f) :
    Con Try.prog 197 [.sl f.length (prt f), .sl f.length (prt f)] (.bool true) := by
  have hl := hf.1
  refine con_of_vc Try.mixed ⟨6, [], [], []⟩ Try.func197 (by decide) rfl (by simp) (by decide) (by simp [freshOK, freshL, go_sem]) ?_
  rw [Try.ntmps197]
  simp [go_sem]
  refine loop_inv (4 :: 5 :: List.range' 11 16) (fun i : Nat => [(5, .int i)]) (fun i => i ≤ f.length) (fun i => f.length - i) 0 (by simp) (by simp [go_sem]) (by simp [go_sem]) ?_
  intro i hi
  simp [go_sem]
  refine ⟨fun h => ?_, fun h => ?_⟩ <;> simp at h
  · have hx : f[i]?.getD [] ∈ f := by simp [h]
    simp [go_sem, prt_drop h]
    refine ⟨by kernel_rfl, ⟨h, by rintro rfl; simp at h⟩, ?_⟩
    refine CallD.of (eqMonomialS_c _ (hf.2 _ hx).1 (hf.2 _ hx).2) (by simp [roots, rootsL]) (by decide) ?_
    simp [go_sem]
    refine ⟨by kernel_rfl, ?_⟩
    simp [go_sem]
    refine ⟨by omega, i + 1, by omega, by omega, Off_reset _ _ _ (by simp), by omega⟩
  · simp [go_sem]
theorem eqField_c (z : Int) (f : List (List Mon)) (hf : Fit f) :
    Con Try.prog 108 [.agg [.int z, .sl f.length (prt f)], .agg [.int z, .sl f.length (prt f)]] (.bool true) := by
  refine con_of_vc Try.mixed ⟨5, [], [], []⟩ Try.func108 (by decide) rfl (by simp) (by decide) (by simp [freshOK, freshL, go_sem]) ?_
  rw [Try.ntmps108]
  simp [go_sem]
  refine CallVC.of (eqMonomialSS_c f hf) (by decide) ?_
  simp [go_sem]
/-- The marks of a part, of the parts. -/
def marksS : List Mon → Int → List Mon
  | [], _ => []
  | m :: p, k => (k, marks m.2.length (k + 1)) :: marksS p (k + 1 + m.2.length)
@[simp] theorem marksS_len : ∀ (p : List Mon) (k : Int), (marksS p k).length = p.length
  | [], _ => rfl
  | m :: p, k => by simp [marksS, marksS_len p]
theorem sumC_app {α : Type} (c : α → Nat) (l r : List α) : sumC c (l ++ r) = sumC c l + sumC c r := by
  induction l with
  | nil => simp [sumC]
  | cons a l ih => simp [sumC, ih]; omega
theorem sumC_take {α : Type} (c : α → Nat) {l : List α} {i : Nat} (h : i < l.length) : sumC c (l.take (i + 1)) = sumC c (l.take i) + c l[i] := by
  rw [List.take_add_one, sumC_app]; simp [h, sumC]
theorem sumC_le {α : Type} (c : α → Nat) (l : List α) (i : Nat) : sumC c (l.take i) ≤ sumC c l := by
  have := congrArg (sumC c) (List.take_append_drop i l)
  rw [sumC_app] at this; omega
theorem marksS_snoc (p : List Mon) (m : Mon) (k : Int) : marksS (p ++ [m]) k = marksS p k ++ [(k + cP p, marks m.2.length (k + cP p + 1))] := by
  induction p generalizing k with
  | nil => simp [marksS, cP, sumC]
  | cons q p ih =>
    have e : k + 1 + (q.2.length : Int) + cP p = k + cP (q :: p) := by simp [cP, sumC, cM]; omega
    simp [marksS, ih, e]
theorem cP_take {p : List Mon} {i : Nat} (h : i < p.length) : cP (p.take (i + 1)) = cP (p.take i) + 1 + p[i].2.length := by
  unfold cP; rw [sumC_take cM h]; simp [cM]; omega
theorem cP_le (p : List Mon) (i : Nat) : cP (p.take i) ≤ cP p := by
  have := sumC_le cM p i
  unfold cP; simp; omega
def marksP : List (List Mon) → Int → List (List Mon)
  | [], _ => []
  | p :: f, k => marksS p k :: marksP f (k + cP p)
@[simp] theorem marksP_len : ∀ (f : List (List Mon)) (k : Int), (marksP f k).length = f.length
  | [], _ => rfl
  | m :: p, k => by simp [marksP, marksP_len p]
theorem marksP_snoc (f : List (List Mon)) (p : List Mon) (k : Int) : marksP (f ++ [p]) k = marksP f k ++ [marksS p (k + sumC cP f)] := by
  induction f generalizing k with
  | nil => simp [marksP, sumC]
  | cons q f ih =>
    have e : k + (cP q : Int) + sumC cP f = k + sumC cP (q :: f) := by simp [sumC]; omega
    simp [marksP, ih, e]
theorem oprt_app (f g : List (List Mon)) : oprt (f ++ g) = oprt f ++ oprt g := by simp [oprt]
end Go.Proofs.Ytoamidolomldnaa

/- Plain sums, values of coefficient functions of three variables over the box of exponents up to 3, derivatives. -/
namespace Go.Proofs.Ytoamidolomldnaa
set_option linter.unusedVariables false
set_option linter.unusedSimpArgs false
abbrev Key3 := Int × Int × Int
def sumI {α : Type} (f : α → Int) : List α → Int
  | [] => 0
  | a :: l => f a + sumI f l
theorem sumI_app {α : Type} (f : α → Int) (l r : List α) : sumI f (l ++ r) = sumI f l + sumI f r := by
  induction l with
  | nil => simp [sumI]
  | cons a l ih => simp [sumI, ih]; omega
theorem sumI_add {α : Type} (f g : α → Int) : ∀ l : List α, sumI (fun a => f a + g a) l = sumI f l + sumI g l
  | [] => rfl
  | a :: l => by simp only [sumI, sumI_add f g l]; omega
theorem sumI_mul {α : Type} (c : Int) (f : α → Int) : ∀ l : List α, sumI (fun a => c * f a) l = c * sumI f l
  | [] => by simp [sumI]
  | a :: l => by simp only [sumI, sumI_mul c f l, Int.mul_add]
theorem sumI_zero {α : Type} {f : α → Int} : ∀ {l : List α}, (∀ a ∈ l, f a = 0) → sumI f l = 0
  | [], _ => rfl
  | a :: l, h => by simp only [sumI, h a (by simp), sumI_zero (l := l) (fun b hb => h b (by simp [hb]))]; rfl
theorem sumI_congr {α : Type} {f g : α → Int} : ∀ {l : List α}, (∀ a ∈ l, f a = g a) → sumI f l = sumI g l
  | [], _ => rfl
  | a :: l, h => by simp only [sumI, h a (by simp), sumI_congr (l := l) (fun b hb => h b (by simp [hb]))]
theorem sumI_mod {α : Type} {P : Int} {f g : α → Int} : ∀ {l : List α}, (∀ a ∈ l, f a % P = g a % P) → sumI f l % P = sumI g l % P
  | [], _ => rfl
  | a :: l, h => by
    simp only [sumI]
    rw [Int.add_emod, h a (by simp), sumI_mod (l := l) (fun b hb => h b (by simp [hb])), ← Int.add_emod]
theorem sumI_swap {α β : Type} (f : α → β → Int) : ∀ (l : List α) (r : List β), sumI (fun a => sumI (fun b => f a b) r) l = sumI (fun b => sumI (fun a => f a b) l) r
  | [], r => by simp only [sumI]; exact (sumI_zero (fun _ _ => rfl)).symm
  | a :: l, r => by
    simp only [sumI]
    rw [sumI_swap f l r, ← sumI_add]
theorem sumI_one {α : Type} [DecidableEq α] (e : α) (v : Int) : ∀ {l : List α}, l.Nodup → e ∈ l → sumI (fun k => if k = e then v else 0) l = v
  | a :: l, hn, he => by
    obtain ⟨h1, h2⟩ := List.nodup_cons.1 hn
    simp only [sumI]
    by_cases h : a = e
    · subst h
      rw [if_pos rfl, sumI_zero (fun b hb => if_neg (fun hh => h1 (by rw [← hh]; exact hb)))]; omega
    · have hel : e ∈ l := by
        rcases List.mem_cons.1 he with he | he
        · exact (h he.symm).elim
        · exact he
      rw [if_neg h, sumI_one e v h2 hel]; omega
def r4 : List Int := [0, 1, 2, 3]
def box : List Key3 := r4.flatMap fun i => r4.flatMap fun j => r4.map fun k => (i, j, k)
theorem box_nd : box.Nodup := by decide
theorem mem_box {k : Key3} : k ∈ box ↔ 0 ≤ k.1 ∧ k.1 ≤ 3 ∧ 0 ≤ k.2.1 ∧ k.2.1 ≤ 3 ∧ 0 ≤ k.2.2 ∧ k.2.2 ≤ 3 := by
  obtain ⟨a, b, c⟩ := k
  have h4 : ∀ x : Int, x ∈ r4 ↔ 0 ≤ x ∧ x ≤ 3 := fun x => by simp [r4]; omega
  simp only [box, List.mem_flatMap, List.mem_map, Prod.mk.injEq]
  constructor
  · rintro ⟨i, hi, j, hj, k, hk, rfl, rfl, rfl⟩
    have := (h4 i).1 hi; have := (h4 j).1 hj; have := (h4 k).1 hk
    omega
  · rintro ⟨h1, h2, h3, h5, h6, h7⟩
    exact ⟨a, (h4 a).2 ⟨h1, h2⟩, b, (h4 b).2 ⟨h3, h5⟩, c, (h4 c).2 ⟨h6, h7⟩, rfl, rfl, rfl⟩
/-- A monomial's worth at a point; a coefficient function's value. -/
def trm (y : Nat → Int) (k : Key3) : Int := y 0 ^ k.1.toNat * (y 1 ^ k.2.1.toNat * y 2 ^ k.2.2.toNat)
def Val (y : Nat → Int) (C : Key3 → Int) : Int := sumI (fun k => C k * trm y k) box
theorem Val_add (y : Nat → Int) (C D : Key3 → Int) : Val y (fun k => C k + D k) = Val y C + Val y D := by
  unfold Val; rw [← sumI_add]; exact sumI_congr (fun k _ => Int.add_mul _ _ _)
theorem Val_mul (y : Nat → Int) (c : Int) (C : Key3 → Int) : Val y (fun k => c * C k) = c * Val y C := by
  unfold Val; rw [← sumI_mul]; exact sumI_congr (fun k _ => Int.mul_assoc _ _ _)
theorem Val_one (y : Nat → Int) (e : Key3) (v : Int) (he : e ∈ box) : Val y (fun k => if k = e then v else 0) = v * trm y e := by
  unfold Val
  rw [← sumI_one e (v * trm y e) box_nd he]
  refine sumI_congr (fun k _ => ?_)
  show (if k = e then v else 0) * trm y k = if k = e then v * trm y e else 0
  by_cases h : k = e
  · rw [if_pos h, if_pos h, h]
  · rw [if_neg h, if_neg h, Int.zero_mul]
theorem Val_mod (y : Nat → Int) {P : Int} {C D : Key3 → Int} (h : ∀ k ∈ box, C k % P = D k % P) : Val y C % P = Val y D % P := by
  unfold Val
  refine sumI_mod (fun k hk => ?_)
  rw [Int.mul_emod, h k hk, ← Int.mul_emod]
/-- The coefficients of a list of terms. -/
def coef {α : Type} (key : α → Key3) (num : α → Int) (l : List α) (k : Key3) : Int := sumI (fun a => if k = key a then num a else 0) l
theorem Val_coef {α : Type} (y : Nat → Int) (key : α → Key3) (num : α → Int) : ∀ l : List α, (∀ a ∈ l, key a ∈ box) → Val y (coef key num l) = sumI (fun a => num a * trm y (key a)) l
  | [], _ => by unfold Val coef; simp only [sumI]; exact sumI_zero (fun _ _ => by simp)
  | a :: l, h => by
    have e : coef key num (a :: l) = fun k => (if k = key a then num a else 0) + coef key num l k := rfl
    rw [e, Val_add, Val_one y (key a) (num a) (h a (by simp)), Val_coef y key num l (fun b hb => h b (by simp [hb]))]; rfl
/-- The next key by a variable; the partial derivative. -/
def inc (i : Nat) (k : Key3) : Key3 := if i = 0 then (k.1 + 1, k.2.1, k.2.2) else if i = 1 then (k.1, k.2.1 + 1, k.2.2) else (k.1, k.2.1, k.2.2 + 1)
def at3 (i : Nat) (k : Key3) : Int := if i = 0 then k.1 else if i = 1 then k.2.1 else k.2.2
def der (i : Nat) (C : Key3 → Int) (k : Key3) : Int := (at3 i k + 1) * C (inc i k)
theorem der_add (i : Nat) (C D : Key3 → Int) (k : Key3) : der i (fun k => C k + D k) k = der i C k + der i D k := by simp only [der, Int.mul_add]
theorem der_mul (i : Nat) (c : Int) (C : Key3 → Int) (k : Key3) : der i (fun k => c * C k) k = c * der i C k := by simp only [der]; rw [Int.mul_left_comm]
/-- Along a vector: the sum over the first n variables. -/
def alo (v : Nat → Int) (C : Key3 → Int) : Nat → Key3 → Int
  | 0, _ => 0
  | n + 1, k => alo v C n k + v n * der n C k
end Go.Proofs.Ytoamidolomldnaa

/- Fields: the reference's test and values. -/
namespace Go.Proofs.Ytoamidolomldnaa
open Go.Abs
set_option linter.unusedVariables false
set_option linter.unusedSimpArgs false
set_option maxHeartbeats 1000000
theorem avs_at' {xs : List Int} {k : Nat} (h : k < xs.length) : (avs xs)[k]? = some (AV.val (.int .i64 (xs[k]?.getD 0))) := by simp [avs, h]
/-- The order of the dictionary. -/
def ltL : List Int → List Int → Bool
  | _, [] => false
  | [], _ :: _ => true
  | x :: xs, y :: ys => if x = y then ltL xs ys else decide (x < y)
theorem ltL_at : ∀ {a b : List Int} {i : Nat}, i < a.length → i < b.length → a.take i = b.take i → a[i]?.getD 0 ≠ b[i]?.getD 0 → ltL a b = decide (a[i]?.getD 0 < b[i]?.getD 0)
  | x :: a, y :: b, 0, _, _, _, h => by
    simp at h
    simp [ltL, h]
  | x :: a, y :: b, i + 1, h1, h2, h3, h4 => by
    simp at h3
    simp only [ltL, if_pos h3.1]
    simpa using ltL_at (a := a) (b := b) (i := i) (by simpa using h1) (by simpa using h2) h3.2 (by simpa using h4)
theorem ltL_end : ∀ {a b : List Int} {i : Nat}, a.take i = b.take i → i ≤ a.length → i ≤ b.length → (a.length ≤ i ∨ b.length ≤ i) → ltL a b = decide (a.length < b.length)
  | _, [], i, _, _, _, _ => by simp [ltL]
  | [], _ :: _, i, _, _, _, _ => by simp [ltL]
  | x :: a, y :: b, 0, _, h1, h2, h3 => by simp at h3
  | x :: a, y :: b, i + 1, h, h1, h2, h3 => by
    simp at h
    simp only [ltL, if_pos h.1]
    have := ltL_end (a := a) (b := b) (i := i) h.2 (by simpa using h1) (by simpa using h2) (by simpa using h3)
    rw [this]; simp
theorem take_ext {a b : List Int} {i : Nat} (h1 : i < a.length) (h2 : i < b.length) (h : a.take i = b.take i) (e : a[i]?.getD 0 = b[i]?.getD 0) : a.take (i + 1) = b.take (i + 1) := by
  rw [List.getElem?_eq_getElem h1, List.getElem?_eq_getElem h2] at e
  simp at e
  rw [List.take_add_one, List.take_add_one, h, List.getElem?_eq_getElem h1, List.getElem?_eq_getElem h2, e]
set_option maxRecDepth 100000 in
theorem l01Less_c (a b : List Int) (ha : a.length ≤ 9223372036854775807) (hb : b.length ≤ 9223372036854775807) : Con Try.prog 190 [.sl a.length (avs a), .sl b.length (avs b)] (.bool (ltL a b)) := by
  refine con_of_vc Try.mixed ⟨6, [], [], []⟩ Try.func190 (by decide) rfl (by simp) (by decide) (by simp [freshOK, freshL, go_sem]) ?_
  rw [Try.ntmps190]
  simp [go_sem]
  refine loop_inv (4 :: 5 :: List.range' 6 30) (fun i : Nat => [(5, .int i)]) (fun i => i ≤ a.length ∧ i ≤ b.length ∧ a.take i = b.take i) (fun i => a.length - i) 0 (by simp) (by simp [go_sem]) (by simp [go_sem]) ?_
  rintro i ⟨hi, hj, he⟩
  by_cases h1 : i < a.length
  · by_cases h2 : i < b.length
    · have h1' : (i : Int) < a.length := by omega
      have h2' : (i : Int) < b.length := by omega
      by_cases hd : a[i]?.getD 0 = b[i]?.getD 0
      · simp [go_sem, h1, h2, h1', h2', avs_drop h1, avs_drop h2, hd]
        refine ⟨by kernel_rfl, by rintro rfl; simp at h1, by rintro rfl; simp at h2, ?_⟩
        have hd2 : a[i] = b[i] := by simpa [h1, h2] using hd
        refine ⟨by kernel_rfl, ?_⟩
        simp [go_sem]
        simp [go_sem, hd2]
        refine ⟨by omega, i + 1, ⟨by omega, by omega, take_ext h1 h2 he hd⟩, by omega, Off_reset _ _ _ (by simp), by omega⟩
      · simp [go_sem, h1, h2, h1', h2', avs_drop h1, avs_drop h2, hd]
        refine ⟨by kernel_rfl, by rintro rfl; simp at h1, by rintro rfl; simp at h2, ?_⟩
        have hd2 : ¬ a[i] = b[i] := by simpa [h1, h2] using hd
        refine ⟨by kernel_rfl, ?_⟩
        simp [go_sem]
        simp [go_sem, hd2, avs_drop h1, avs_drop h2]
        refine ⟨by kernel_rfl, ⟨h1, by rintro rfl; simp at h1⟩, ⟨h2, by rintro rfl; simp at h2⟩, ?_⟩
        refine ⟨by kernel_rfl, ?_⟩
        simp [go_sem]
        rw [ltL_at h1 h2 he hd]
    · have h2' : ¬ (i : Int) < b.length := by omega
      simp [go_sem, h1, h2, h2']
      rw [ltL_end he hi hj (.inr (by omega))]
  · simp [go_sem, h1]
    rw [ltL_end he hi hj (.inl (by omega))]
def degL : List Int → Int → Int
  | [], s => s
  | x :: xs, s => if x < 0 ∨ 100 < x then 1000 else degL xs (s + x)
set_option maxRecDepth 100000 in
theorem l13Degree_c (a : List Int) (ha : a.length ≤ 1048576) : Con Try.prog 189 [.sl a.length (avs a)] (.int (degL a 0)) := by
  refine con_of_vc Try.mixed ⟨5, [], [], []⟩ Try.func189 (by decide) rfl (by simp) (by decide) (by simp [freshOK, freshL, go_sem]) ?_
  rw [Try.ntmps189]
  simp [go_sem]
  refine loop_inv (2 :: 3 :: 4 :: List.range' 5 24) (fun x : Nat × Int => [(3, .int x.2), (4, .int x.1)]) (fun x => x.1 ≤ a.length ∧ 0 ≤ x.2 ∧ x.2 ≤ 100 * x.1 ∧ degL (a.drop x.1) x.2 = degL a 0) (fun x => a.length - x.1) (0, 0) (by simp) (by simp [go_sem]) (by simp [go_sem]) ?_
  rintro ⟨i, s⟩ ⟨hi, hs0, hs1, he⟩
  simp only at hi hs0 hs1 he
  simp [go_sem]
  refine ⟨fun h => ?_, fun h => ?_⟩ <;> simp at h
  · have hd : a.drop i = a[i]?.getD 0 :: a.drop (i + 1) := by rw [List.drop_eq_getElem_cons h]; simp [h]
    rw [hd, degL] at he
    by_cases b1 : a[i]?.getD 0 < 0
    · simp [go_sem, avs_drop h, b1]
      rw [if_pos (.inl b1)] at he
      exact ⟨⟨h, by rintro rfl; simp at h⟩, he⟩
    · by_cases b2 : 100 < a[i]?.getD 0
      · simp [go_sem, avs_drop h, b1, b2]
        rw [if_pos (.inr b2)] at he
        exact ⟨⟨h, by rintro rfl; simp at h⟩, he⟩
      · simp [go_sem, avs_drop h, b1, b2]
        rw [if_neg (by omega)] at he
        refine ⟨⟨h, by rintro rfl; simp at h⟩, by omega, by omega, i + 1, _, ⟨by omega, by omega, by omega, he⟩, by omega, Off_reset _ _ _ (by simp), rfl, by omega⟩
  · simp [go_sem]
    rw [List.drop_eq_nil_of_le h] at he
    exact he
/-- That a monomial is one of z variables; that a part's j-th one is and stands behind the one before. -/
def monB (z : Int) (m : Mon) : Bool := decide (1 ≤ m.1 ∧ m.1 ≤ 10006) && decide ((m.2.length : Int) = z) && decide (degL m.2 0 ≤ 3)
def atB (z : Int) (p : List Mon) (j : Nat) : Bool := monB z (p[j]?.getD (0, [])) && (decide (j = 0) || ltL (p[j - 1]?.getD (0, [])).2 (p[j]?.getD (0, [])).2)
def partB (z : Int) (p : List Mon) : Bool := (List.range p.length).all (atB z p)
def fieldB (z : Int) (f : List (List Mon)) : Bool := decide (1 ≤ z ∧ z ≤ 3) && decide ((f.length : Int) = z) && f.all (partB z)
theorem partB_no {z : Int} {p : List Mon} {j : Nat} (hj : j < p.length) (h : atB z p j = false) : partB z p = false := by
  unfold partB; rw [List.all_eq_false]; exact ⟨j, by simpa using hj, by simp [h]⟩
theorem partB_yes {z : Int} {p : List Mon} (h : ∀ j, j < p.length → atB z p j = true) : partB z p = true := by
  unfold partB; rw [List.all_eq_true]; intro j hj; exact h j (by simpa using hj)
theorem fieldB_no {z : Int} {f : List (List Mon)} {i : Nat} (hi : i < f.length) (h : partB z (f[i]?.getD []) = false) : fieldB z f = false := by
  unfold fieldB
  have : f.all (partB z) = false := by rw [List.all_eq_false]; exact ⟨f[i]?.getD [], by simp [hi], by simp [h]⟩
  rw [this]; simp
/-- That a field's lengths are small. -/
def Small (f : List (List Mon)) : Prop := f.length ≤ 1048576 ∧ ∀ p ∈ f, p.length ≤ 1048576 ∧ ∀ q ∈ p, q.2.length ≤ 1048576
set_option maxRecDepth 100000 in
theorem l13Is_c (z : Int) (f : List (List Mon)) (hf : Small f) : Con Try.prog 102 [.agg [.int z, .sl f.length (prt f)]] (.bool (fieldB z f)) := by
  have fl := hf.1
  refine con_of_vc Try.mixed ⟨6, [], [], []⟩ Try.func102 (by decide) rfl (by simp) (by decide) (by simp [freshOK, freshL, go_sem]) ?_
  rw [Try.ntmps102]
  simp [go_sem]
  refine CallVC.of (l01In_c z 1 3) (by decide) ?_
  simp [go_sem]
  by_cases hz : 1 ≤ z ∧ z ≤ 3
  · by_cases hl : (f.length : Int) = z
    · have fine : fieldB z f = f.all (partB z) := by unfold fieldB; simp [hz, hl]
      simp [go_sem, hz.1, hz.2, hl]
      refine loop_inv (2 :: 3 :: 4 :: 5 :: List.range' 18 61) (fun i : Nat => [(3, .int i)]) (fun i => i ≤ f.length ∧ ∀ p ∈ f.take i, partB z p = true) (fun i => f.length - i) 0 (by simp) (by simp [go_sem]) (by simp [go_sem]) ?_
      rintro i ⟨hi, hp⟩
      simp [go_sem]
      refine ⟨fun h => ?_, fun h => ?_⟩ <;> simp at h
      · have hx : f[i]?.getD [] ∈ f := by simp [h]
        obtain ⟨hm1, hm2⟩ := hf.2 _ hx
        simp [go_sem]
        refine loop_inv (2 :: 4 :: 5 :: List.range' 25 54) (fun j : Nat => [(4, .int j)]) (fun j => j ≤ (f[i]?.getD []).length ∧ ∀ k, k < j → atB z (f[i]?.getD []) k = true) (fun j => (f[i]?.getD []).length - j) 0 (by simp) (by simp [go_sem]) (by simp [go_sem]) ?_
        rintro j ⟨hj, hq⟩
        have hif := h
        simp [go_sem, prt_drop hif]
        refine ⟨⟨hif, by rintro rfl; simp at hif⟩, ?_⟩
        generalize hP : f[i]?.getD [] = P at *
        refine ⟨fun h => ?_, fun h => ?_⟩ <;> simp at h
        · have hy : P[j]?.getD (0, []) ∈ P := by simp [h]
          have hm := hm2 _ hy
          have hno : atB z P j = false → fieldB z f = false := fun hh => fieldB_no hif (by rw [hP]; exact partB_no h hh)
          simp [go_sem, prt_drop hif, hP, mons_drop h]
          refine ⟨⟨hif, by rintro rfl; simp at hif⟩, ⟨h, by rintro rfl; simp at h⟩, ?_⟩
          generalize hM : P[j]?.getD (0, []) = m at *
          have cD := l13Degree_c m.2 hm
          refine CallVC.of (l01In_c _ _ _) (by decide) ?_
          by_cases c1 : 1 ≤ m.1 ∧ m.1 ≤ 10006
          · by_cases c2 : (m.2.length : Int) = z
            · simp [go_sem, c1.1, c1.2, c2]
              refine CallVC.of (cD) (by decide) ?_
              by_cases c3 : degL m.2 0 ≤ 3
              · have c3' : ¬ 3 < degL m.2 0 := by omega
                have hmb : monB z m = true := by unfold monB; simp [c1, c2, c3]
                simp [go_sem, c3']
                refine ⟨by kernel_rfl, ?_⟩
                by_cases j0 : 0 < j
                · have hk : j - 1 < P.length := by omega
                  have ek : (j : Int) - 1 = ((j - 1 : Nat) : Int) := by omega
                  have hyk : P[j - 1]?.getD (0, []) ∈ P := by simp [hk]
                  have hmk := hm2 _ hyk
                  have cL := l01Less_c (P[j - 1]?.getD (0, [])).2 m.2 (by omega) (by omega)
                  have hat : atB z P j = ltL (P[j - 1]?.getD (0, [])).2 m.2 := by unfold atB; rw [hM, hmb, decide_eq_false (by omega : ¬ j = 0)]; simp
                  simp [go_sem, j0, ek, prt_drop hif, hP, mons_drop hk]
                  generalize (P[j - 1]?.getD (0, [])).2 = pw0 at *
                  refine ⟨⟨hif, by rintro rfl; simp at hif⟩, by omega, ⟨hk, by rintro rfl; simp at h⟩, ?_⟩
                  generalize hL : ltL pw0 m.2 = bb at *
                  refine CallD.of (cL) (by simp [roots, rootsL]) (by decide) ?_
                  simp [go_sem]
                  cases bb with
                  | false =>
                    simp [go_sem]
                    refine ⟨by kernel_rfl, ?_⟩
                    simp [go_sem]
                    rw [hno hat]
                  | true =>
                    simp [go_sem]
                    refine ⟨by kernel_rfl, ?_⟩
                    simp [go_sem]
                    refine ⟨by omega, j + 1, ⟨by omega, fun k hk2 => ?_⟩, by omega, Off_reset _ _ _ (by simp), by omega⟩
                    by_cases e : k = j
                    · rw [e]; exact hat
                    · exact hq k (by omega)
                · simp [go_sem, j0]
                  refine ⟨by kernel_rfl, ?_⟩
                  simp [go_sem]
                  have hat : atB z P j = true := by unfold atB; rw [hM, hmb, decide_eq_true (by omega : j = 0)]; rfl
                  refine ⟨by omega, j + 1, ⟨by omega, fun k hk2 => ?_⟩, by omega, Off_reset _ _ _ (by simp), by omega⟩
                  by_cases e : k = j
                  · rw [e]; exact hat
                  · exact hq k (by omega)
              · have c3' : 3 < degL m.2 0 := by omega
                simp [go_sem, c3']
                rw [hno (by unfold atB monB; rw [hM, decide_eq_false c3]; simp)]
            · simp [go_sem, c1.1, c1.2, c2]
              rw [hno (by unfold atB monB; simp [hM, c2])]
          · have c1' : (decide (1 ≤ m.1) && decide (m.1 ≤ 10006)) = false := by simpa using c1
            rw [c1']
            simp [go_sem]
            rw [hno (by unfold atB monB; rw [hM, decide_eq_false c1]; simp)]
        · simp [go_sem]
          have hpb : partB z P = true := partB_yes (fun k hk => hq k (by omega))
          refine ⟨by omega, i + 1, ⟨by omega, take_all hif hp (by rw [← hP] at hpb; simpa [hif] using hpb)⟩, by omega, (Off.reset (by intro x hx; simp at hx ⊢; omega) (by simp) (by simp [go_sem, Off_reset])), by omega⟩
      · simp [go_sem]
        rw [List.take_of_length_le h] at hp
        rw [fine, List.all_eq_true.2 hp]
    · simp [go_sem, hz.1, hz.2, hl]
      unfold fieldB; simp [hl]
  · have hz' : (decide (1 ≤ z) && decide (z ≤ 3)) = false := by simpa using hz
    rw [hz']
    simp [go_sem]
    unfold fieldB; rw [decide_eq_false hz]; simp
end Go.Proofs.Ytoamidolomldnaa

/- Fields: the reference's values. -/
namespace Go.Proofs.Ytoamidolomldnaa
open Go.Abs
set_option linter.unusedVariables false
set_option linter.unusedSimpArgs false
set_option maxHeartbeats 1000000
theorem degL_le : ∀ {xs : List Int} {s : Int}, 0 ≤ s → degL xs s ≤ 3 → (∀ x ∈ xs, 0 ≤ x ∧ x ≤ 3) ∧ s + xs.sum ≤ 3
  | [], s, h0, h => by simpa [degL] using h
  | x :: xs, s, h0, h => by
    rw [degL] at h
    split at h
    · omega
    · rename_i hx
      have hd := degL_le (xs := xs) (s := s + x) (by omega) h
      have pos : ∀ (l : List Int), (∀ x ∈ l, 0 ≤ x ∧ x ≤ 3) → 0 ≤ l.sum := by
        intro l
        induction l with
        | nil => simp
        | cons a l ih => intro h; have h1 := h a (by simp); have h2 := ih (fun x hx => h x (by simp [hx])); simp; omega
      have hs := pos xs hd.1
      have hd2 := hd.2
      refine ⟨fun y hy => ?_, by simp; omega⟩
      rcases List.mem_cons.1 hy with rfl | hy
      · omega
      · exact hd.1 y hy
structure MonOk (z : Int) (m : Mon) : Prop where
  lo : 1 ≤ m.1
  hi : m.1 ≤ 10006
  len : (m.2.length : Int) = z
  pw : ∀ x ∈ m.2, 0 ≤ x ∧ x ≤ 3
  deg : m.2.sum ≤ 3
theorem monB_ok {z : Int} {m : Mon} (h : monB z m = true) : MonOk z m := by
  unfold monB at h
  simp only [Bool.and_eq_true, decide_eq_true_eq] at h
  have := degL_le (by omega : (0 : Int) ≤ 0) h.2
  exact ⟨h.1.1.1, h.1.1.2, h.1.2, this.1, by omega⟩
theorem MonOk.get {z : Int} {m : Mon} (h : MonOk z m) (k : Nat) : 0 ≤ m.2[k]?.getD 0 ∧ m.2[k]?.getD 0 ≤ 3 := by
  rcases Nat.lt_or_ge k m.2.length with hk | hk
  · simp [hk]; exact h.pw _ (List.getElem_mem hk)
  · simp [hk]
structure FieldOk (z : Int) (f : List (List Mon)) : Prop where
  lo : 1 ≤ z
  hi : z ≤ 3
  len : (f.length : Int) = z
  part : ∀ p ∈ f, partB z p = true
theorem fieldB_iff {z : Int} {f : List (List Mon)} : fieldB z f = true ↔ FieldOk z f := by
  unfold fieldB
  simp only [Bool.and_eq_true, decide_eq_true_eq, List.all_eq_true]
  exact ⟨fun ⟨⟨⟨a, b⟩, c⟩, d⟩ => ⟨a, b, c, d⟩, fun ⟨a, b, c, d⟩ => ⟨⟨⟨a, b⟩, c⟩, d⟩⟩
theorem partB_at {z : Int} {p : List Mon} (h : partB z p = true) {j : Nat} (hj : j < p.length) : MonOk z (p[j]?.getD (0, [])) ∧ (0 < j → ltL (p[j - 1]?.getD (0, [])).2 (p[j]?.getD (0, [])).2 = true) := by
  unfold partB at h
  have := (List.all_eq_true.1 h) j (by simpa using hj)
  unfold atB at this
  simp only [Bool.and_eq_true, Bool.or_eq_true, decide_eq_true_eq] at this
  exact ⟨monB_ok this.1, fun h0 => this.2.resolve_left (by omega)⟩
theorem partB_mem {z : Int} {p : List Mon} (h : partB z p = true) {m : Mon} (hm : m ∈ p) : MonOk z m := by
  obtain ⟨j, hj, rfl⟩ := List.getElem_of_mem hm
  have := (partB_at h hj).1
  simpa [hj] using this
/-- The value of a monomial at a point, up to the i-th variable; the sum over a part. -/
def tmF (y e : List Int) (x : Int) : Nat → Int
  | 0 => x
  | i + 1 => tmF y e x i * Go.Proofs.Ytoamidolomldnaa.pw (y[i]?.getD 0) (e[i]?.getD 0) % 10007
theorem tmF_N {y e : List Int} {x : Int} (h : isN x) : ∀ i, isN (tmF y e x i)
  | 0 => h
  | i + 1 => isN_mod _
def vsum (y : List Int) : List Mon → Int
  | [] => 0
  | m :: p => tmF y m.2 m.1 y.length + vsum y p
theorem vsum_app (y : List Int) (p q : List Mon) : vsum y (p ++ q) = vsum y p + vsum y q := by
  induction p with
  | nil => simp [vsum]
  | cons a p ih => simp [vsum, ih]; omega
theorem vsum_take {y : List Int} {p : List Mon} {i : Nat} (h : i < p.length) : vsum y (p.take (i + 1)) = vsum y (p.take i) + tmF y (p[i]?.getD (0, [])).2 (p[i]?.getD (0, [])).1 y.length := by
  rw [List.take_add_one, vsum_app]; simp [h, vsum]
theorem l13Point_c (z : Int) (y : List Int) (hl : y.length ≤ 9223372036854775807) : Con Try.prog 103 [.int z, .sl y.length (avs y)] (.bool (decide ((y.length : Int) = z) && numsB y)) := by
  refine con_of_vc Try.mixed ⟨5, [], [], []⟩ Try.func103 (by decide) rfl (by simp) (by decide) (by simp [freshOK, freshL, go_sem]) ?_
  rw [Try.ntmps103]
  simp [go_sem]
  by_cases h : (y.length : Int) = z
  · simp [go_sem, h]
    refine CallVC.of (l01Numbers_c y hl) (by decide) ?_
    simp [go_sem]
  · simp [go_sem, h]
set_option maxRecDepth 100000 in
theorem l13Value_c (p : List Mon) (y : List Int) (hy : Ns y) (hl : y.length ≤ 1000) (hp : p.length ≤ 1048576) (hm : ∀ m ∈ p, MonOk y.length m) :
    Con Try.prog 249 [.sl p.length (mons p), .sl y.length (avs y)] (.int (vsum y p % 10007)) := by
  refine con_of_vc Try.mixed ⟨9, [], [], []⟩ Try.func249 (by decide) rfl (by simp) (by decide) (by simp [freshOK, freshL, go_sem]) ?_
  rw [Try.ntmps249]
  simp [go_sem]
  refine loop_inv (5 :: 6 :: 7 :: 8 :: List.range' 9 35) (fun i : Nat => [(5, .int (vsum y (p.take i) % 10007)), (6, .int i)]) (fun i => i ≤ p.length) (fun i => p.length - i) 0 (by simp) (by simp [go_sem, vsum]) (by simp [go_sem]) ?_
  intro i hi
  simp [go_sem]
  refine ⟨fun h => ?_, fun h => ?_⟩ <;> simp at h
  · have hif := h
    have hx : p[i]?.getD (0, []) ∈ p := by simp [h]
    have ho := hm _ hx
    have hv := vsum_take (y := y) h
    simp [go_sem, mons_drop hif]
    refine ⟨⟨hif, by rintro rfl; simp at hif⟩, ?_⟩
    generalize hM : p[i]?.getD (0, []) = m at *
    have hml : m.2.length = y.length := by have := ho.len; omega
    have hx1 : isN m.1 := ⟨by have := ho.lo; omega, by have := ho.hi; omega⟩
    refine loop_inv (7 :: 8 :: List.range' 20 21) (fun k : Nat => [(7, .int (tmF y m.2 m.1 k)), (8, .int k)]) (fun k => k ≤ y.length) (fun k => y.length - k) 0 (by simp) (by simp [go_sem, tmF]) (by simp [go_sem]) ?_
    intro k hk
    simp [go_sem]
    refine ⟨fun h => ?_, fun h => ?_⟩ <;> simp at h
    · have hk2 : k < m.2.length := by omega
      have g := ho.get k
      simp [go_sem, mons_drop hif, hM, avs_drop h, avs_drop hk2]
      refine ⟨by kernel_rfl, ⟨h, by rintro rfl; simp at h⟩, ⟨hif, by rintro rfl; simp at hif⟩, ⟨hk2, fun e => by rw [e] at hk2; simp at hk2⟩, ?_⟩
      refine CallD.of (l01Pow_c _ _ (hy.get k) g.1 (by omega)) (by simp [roots, rootsL]) (by decide) ?_
      simp [go_sem]
      refine CallD.of (l01Mul_c _ _ (mul_fits (tmF_N hx1 k) (isN_mod _))) (by simp [roots, rootsL]) (by decide) ?_
      simp [go_sem]
      refine ⟨by kernel_rfl, ?_⟩
      simp [go_sem]
      refine ⟨by omega, k + 1, by omega, by omega, Off_reset _ _ _ (by simp), by simp [tmF], by omega⟩
    · have e : k = y.length := by omega
      subst e
      simp [go_sem]
      refine CallVC.of (l01Add_c _ _ (add_fits (isN_mod _) (tmF_N hx1 _))) (by decide) ?_
      simp [go_sem]
      refine ⟨by omega, i + 1, by omega, by omega, (Off.reset (by intro x hx; simp at hx ⊢; omega) (by simp) (by simp [go_sem, Off_reset])), ?_, by omega⟩
      rw [hv]
  · simp [go_sem]
    have e : i = p.length := by omega
    subst e; simp
/-- The values of a field. -/
def evL (y : List Int) (f : List (List Mon)) : List Int := f.map fun p => vsum y p % 10007
@[simp] theorem evL_len (y : List Int) (f : List (List Mon)) : (evL y f).length = f.length := by simp [evL]
theorem evL_take {y : List Int} {f : List (List Mon)} {i : Nat} (h : i < f.length) : evL y (f.take (i + 1)) = evL y (f.take i) ++ [vsum y (f[i]?.getD []) % 10007] := by
  rw [evL, evL, List.take_add_one, List.map_append, List.getElem?_eq_getElem h]; rfl
def evX (z : Int) (f : List (List Mon)) (y : List Int) : List Int := if fieldB z f = true ∧ (decide ((y.length : Int) = z) && numsB y) = true then evL y f else []
def evE (z : Int) (f : List (List Mon)) (y : List Int) : Int := if fieldB z f = true then if (decide ((y.length : Int) = z) && numsB y) = true then 0 else 2 else 1
def evR (z : Int) (f : List (List Mon)) (y : List Int) : AV := .tup [.own 2 (evX z f y).length (avs (evX z f y)), .int (evE z f y)]
end Go.Proofs.Ytoamidolomldnaa

/- Fields: the program's test. -/
namespace Go.Proofs.Ytoamidolomldnaa
open Go.Abs
set_option linter.unusedVariables false
set_option linter.unusedSimpArgs false
set_option maxHeartbeats 1000000
def cmpI (x y : Int) : Int := if x < y then -1 else if y < x then 1 else 0
theorem isNaN_c (x : Int) : Con Try.prog 273 [.int x] (.bool false) := by
  refine con_of_vc Try.mixed ⟨3, [], [], []⟩ Try.func273 (by decide) rfl (by simp) (by decide) (by simp [freshOK, freshL, go_sem]) ?_
  rw [Try.ntmps273]
  simp [go_sem]
theorem Compare1_c (x y : Int) : Con Try.prog 259 [.int x, .int y] (.int (cmpI x y)) := by
  refine con_of_vc Try.mixed ⟨7, [], [], []⟩ Try.func259 (by decide) rfl (by simp) (by decide) (by simp [freshOK, freshL, go_sem]) ?_
  rw [Try.ntmps259]
  simp [go_sem]
  refine CallVC.of (isNaN_c _) (by decide) ?_
  simp [go_sem]
  refine CallVC.of (isNaN_c _) (by decide) ?_
  simp [go_sem]
  unfold cmpI
  by_cases h1 : x < y
  · simp [go_sem, h1]
  · by_cases h2 : y < x
    · simp [go_sem, h1, h2]
    · simp [go_sem, h1, h2]
def cmpL : List Int → List Int → Int
  | [], [] => 0
  | [], _ :: _ => -1
  | _ :: _, [] => 1
  | x :: xs, y :: ys => if x = y then cmpL xs ys else cmpI x y
theorem cmpI_ne {x y : Int} (h : x ≠ y) : cmpI x y ≠ 0 := by unfold cmpI; split; omega; split <;> omega
theorem cmpL_lt : ∀ a b : List Int, decide (0 ≤ cmpL a b) = !ltL a b
  | [], [] => by simp [cmpL, ltL]
  | [], _ :: _ => by simp [cmpL, ltL]
  | _ :: _, [] => by simp [cmpL, ltL]
  | x :: xs, y :: ys => by
    rw [cmpL, ltL]
    by_cases h : x = y
    · rw [if_pos h, if_pos h]; exact cmpL_lt xs ys
    · rw [if_neg h, if_neg h]
      unfold cmpI
      by_cases h1 : x < y
      · simp [h1]
      · have : y < x := by omega
        simp [h1, this]
theorem cmpL_at : ∀ {a b : List Int} {i : Nat}, i < a.length → i < b.length → a.take i = b.take i → a[i]?.getD 0 ≠ b[i]?.getD 0 → cmpL a b = cmpI (a[i]?.getD 0) (b[i]?.getD 0)
  | x :: a, y :: b, 0, _, _, _, h => by
    simp at h
    simp [cmpL, h]
  | x :: a, y :: b, i + 1, h1, h2, h3, h4 => by
    simp at h3
    simp only [cmpL, if_pos h3.1]
    simpa using cmpL_at (a := a) (b := b) (i := i) (by simpa using h1) (by simpa using h2) h3.2 (by simpa using h4)
theorem cmpL_more : ∀ {a b : List Int} {i : Nat}, i < a.length → b.length ≤ i → a.take b.length = b → cmpL a b = 1
  | x :: a, [], _, _, _, _ => by simp [cmpL]
  | x :: a, y :: b, 0, _, h, _ => by simp at h
  | x :: a, y :: b, i + 1, h1, h2, h3 => by
    simp at h3
    simp only [cmpL, if_pos h3.1]
    exact cmpL_more (a := a) (b := b) (i := i) (by simpa using h1) (by simpa using h2) h3.2
theorem cmpL_end : ∀ {a b : List Int}, a = b.take a.length → cmpL a b = if a.length < b.length then -1 else 0
  | [], [], _ => by simp [cmpL]
  | [], _ :: _, _ => by simp [cmpL]
  | x :: a, [], h => by simp at h
  | x :: a, y :: b, h => by
    simp at h
    simp only [cmpL, if_pos h.1]
    rw [cmpL_end h.2]; simp
set_option maxRecDepth 100000 in
theorem Compare_c (a b : List Int) (ha : a.length ≤ 9223372036854775807) (hb : b.length ≤ 9223372036854775807) : Con Try.prog 228 [.sl a.length (avs a), .sl b.length (avs b)] (.int (cmpL a b)) := by
  refine con_of_vc Try.mixed ⟨9, [], [], []⟩ Try.func228 (by decide) rfl (by simp) (by decide) (by simp [freshOK, freshL, go_sem]) ?_
  rw [Try.ntmps228]
  simp [go_sem]
  refine loop_inv (4 :: 5 :: 6 :: 7 :: 8 :: List.range' 11 20) (fun i : Nat => [(11, .int i)]) (fun i => i ≤ a.length ∧ i ≤ b.length ∧ a.take i = b.take i) (fun i => a.length - i) 0 (by simp) (by simp [go_sem]) (by simp [go_sem]) ?_
  rintro i ⟨hi, hj, he⟩
  simp [go_sem]
  refine ⟨fun h => ?_, fun h => ?_⟩ <;> simp at h
  · have h1 := h
    simp [go_sem, avs_drop h1]
    refine ⟨⟨h1, by rintro rfl; simp at h1⟩, ?_⟩
    by_cases h2 : i < b.length
    · have h2' : ¬ (b.length ≤ i) := by omega
      simp [go_sem, h2', avs_drop h2]
      refine ⟨⟨h2, by rintro rfl; simp at h2⟩, ?_⟩
      refine CallVC.of (Compare1_c _ _) (by decide) ?_
      simp [go_sem]
      by_cases hd : a[i]?.getD 0 = b[i]?.getD 0
      · have hc : cmpI (a[i]?.getD 0) (b[i]?.getD 0) = 0 := by unfold cmpI; rw [if_neg (by omega), if_neg (by omega)]
        simp [go_sem, hc]
        refine ⟨by omega, i + 1, ⟨by omega, by omega, take_ext h1 h2 he hd⟩, by omega, Off_reset _ _ _ (by simp), by omega⟩
      · have hc := cmpI_ne hd
        simp [go_sem, hc]
        rw [cmpL_at h1 h2 he hd]
    · have h2' : b.length ≤ i := by omega
      have e : i = b.length := by omega
      simp [go_sem, h2']
      rw [cmpL_more h1 h2' (by rw [← e, he, e, List.take_length])]
  · simp [go_sem]
    have e : i = a.length := by omega
    subst e
    rw [List.take_length] at he
    rw [cmpL_end he]
    by_cases h3 : a.length < b.length
    · simp [go_sem, h3]
    · simp [go_sem, h3]
theorem degL_big {xs : List Int} {s : Int} (h : 3 < s) : ¬ degL xs s ≤ 3 := by
  intro hd
  have := degL_le (by omega : 0 ≤ s) hd
  have pos : ∀ (l : List Int), (∀ x ∈ l, 0 ≤ x ∧ x ≤ 3) → 0 ≤ l.sum := by
    intro l
    induction l with
    | nil => simp
    | cons a l ih => intro h; have h1 := h a (by simp); have h2 := ih (fun x hx => h x (by simp [hx])); simp; omega
  have := pos xs this.1
  omega
set_option maxRecDepth 100000 in
theorem isMonomial_c (z : Int) (m : Mon) (hl : m.2.length ≤ 1048576) : Con Try.prog 227 [.agg [.int m.1, .sl m.2.length (avs m.2)], .int z] (.bool (monB z m)) := by
  refine con_of_vc Try.mixed ⟨8, [], [], []⟩ Try.func227 (by decide) rfl (by simp) (by decide) (by simp [freshOK, freshL, go_sem]) ?_
  rw [Try.ntmps227]
  simp [go_sem]
  refine loop_inv (4 :: 5 :: 7 :: List.range' 11 11) (fun x : Nat × Int => [(5, .int x.2), (11, .int x.1)]) (fun x => x.1 ≤ m.2.length ∧ 0 ≤ x.2 ∧ x.2 ≤ 3 * x.1 ∧ degL (m.2.drop x.1) x.2 = degL m.2 0) (fun x => m.2.length - x.1) (0, 0) (by simp) (by simp [go_sem]) (by simp [go_sem]) ?_
  rintro ⟨i, s⟩ ⟨hi, hs0, hs1, he⟩
  simp only at hi hs0 hs1 he
  simp [go_sem]
  refine ⟨fun h => ?_, fun h => ?_⟩ <;> simp at h
  · have hd : m.2.drop i = m.2[i]?.getD 0 :: m.2.drop (i + 1) := by rw [List.drop_eq_getElem_cons h]; simp [h]
    simp [go_sem, avs_drop h]
    refine ⟨⟨h, fun e => by rw [e] at h; simp at h⟩, ?_⟩
    refine CallVC.of (inRange_c _ _ _) (by decide) ?_
    by_cases hx : 0 ≤ m.2[i]?.getD 0 ∧ m.2[i]?.getD 0 ≤ 3
    · simp [go_sem, hx.1, hx.2]
      rw [hd, degL, if_neg (by omega)] at he
      refine ⟨by omega, by omega, i + 1, _, ⟨by omega, by omega, by omega, he⟩, by omega, Off_reset _ _ _ (by simp), rfl, by omega⟩
    · have hx' : (decide (0 ≤ m.2[i]?.getD 0) && decide (m.2[i]?.getD 0 ≤ 3)) = false := by simpa using hx
      have hm : monB z m = false := by
        have : ¬ degL m.2 0 ≤ 3 := by
          rw [← he, hd, degL]
          split
          · omega
          · exact degL_big (by omega)
        unfold monB; rw [decide_eq_false this]; simp
      rw [hx']
      simp [go_sem]
      rw [hm]
  · simp [go_sem]
    rw [List.drop_eq_nil_of_le h, degL] at he
    subst he
    by_cases c0 : m.1 = 0
    · simp [go_sem, c0]
      unfold monB; simp [c0]
    · simp [go_sem, c0]
      refine CallVC.of (IsNumber_c _) (by decide) ?_
      simp [go_sem]
      by_cases c1 : 0 ≤ m.1 ∧ m.1 ≤ 10006
      · simp [go_sem, c1.1, c1.2]
        refine CallVC.of (length_c _ _ (by omega)) (by decide) ?_
        simp [go_sem]
        by_cases c2 : (m.2.length : Int) = z
        · simp [go_sem, c2]
          unfold monB
          have : 1 ≤ m.1 := by omega
          simp [this, c1.2, c2]
        · simp [go_sem, c2]
          unfold monB; simp [c2]
      · have c1' : (decide (0 ≤ m.1) && decide (m.1 ≤ 10006)) = false := by simpa using c1
        rw [c1']
        simp [go_sem]
        have : ¬ (1 ≤ m.1 ∧ m.1 ≤ 10006) := by omega
        unfold monB; rw [decide_eq_false this]; simp
theorem lengthP_c (n : Nat) (cs : List AV) (hn : n ≤ 9223372036854775807) : Con Try.prog 226 [.sl n cs] (.int n) := by
  refine con_of_vc Try.mixed ⟨3, [], [], []⟩ Try.func226 (by decide) rfl (by simp) (by decide) (by simp [freshOK, freshL, go_sem]) ?_
  rw [Try.ntmps226]
  simp [go_sem]
  try omega
set_option maxRecDepth 100000 in
theorem IsField_c (z : Int) (f : List (List Mon)) (hf : Small f) : Con Try.prog 153 [.agg [.int z, .sl f.length (prt f)]] (.bool (fieldB z f)) := by
  have fl := hf.1
  refine con_of_vc Try.mixed ⟨7, [], [], []⟩ Try.func153 (by decide) rfl (by simp) (by decide) (by simp [freshOK, freshL, go_sem]) ?_
  rw [Try.ntmps153]
  simp [go_sem]
  refine ⟨by kernel_rfl, ?_⟩
  refine CallD.of (inRange_c z 1 3) (by simp [roots, rootsL]) (by decide) ?_
  simp [go_sem]
  by_cases hz : 1 ≤ z ∧ z ≤ 3
  · have cl := lengthP_c f.length (prt f) (by omega)
    by_cases hl : (f.length : Int) = z
    · have fine : fieldB z f = f.all (partB z) := by unfold fieldB; simp [hz, hl]
      simp [go_sem, hz.1, hz.2]
      refine CallD.of (cl) (by simp [roots, rootsL]) (by decide) ?_
      simp [go_sem]
      simp [go_sem, hl]
      refine ⟨by kernel_rfl, ?_⟩
      simp [go_sem]
      refine loop_inv (2 :: 4 :: 5 :: 6 :: List.range' 22 34) (fun i : Nat => [(22, .int i)]) (fun i => i ≤ f.length ∧ ∀ p ∈ f.take i, partB z p = true) (fun i => f.length - i) 0 (by simp) (by simp [go_sem]) (by simp [go_sem]) ?_
      rintro i ⟨hi, hp⟩
      simp [go_sem]
      refine ⟨fun h => ?_, fun h => ?_⟩ <;> simp at h
      · have hif := h
        have hx : f[i]?.getD [] ∈ f := by simp [h]
        obtain ⟨hm1, hm2⟩ := hf.2 _ hx
        simp [go_sem, prt_drop hif]
        refine ⟨⟨hif, by rintro rfl; simp at hif⟩, ?_⟩
        generalize hP : f[i]?.getD [] = P at *
        refine loop_inv (2 :: 5 :: 6 :: List.range' 28 27) (fun j : Nat => [(28, .int j)]) (fun j => j ≤ P.length ∧ ∀ k, k < j → atB z P k = true) (fun j => P.length - j) 0 (by simp) (by simp [go_sem]) (by simp [go_sem]) ?_
        rintro j ⟨hj, hq⟩
        simp [go_sem]
        refine ⟨fun h => ?_, fun h => ?_⟩ <;> simp at h
        · have hy : P[j]?.getD (0, []) ∈ P := by simp [h]
          have hm := hm2 _ hy
          have hno : atB z P j = false → fieldB z f = false := fun hh => fieldB_no hif (by rw [hP]; exact partB_no h hh)
          simp [go_sem, mons_drop h]
          refine ⟨⟨h, by rintro rfl; simp at h⟩, by kernel_rfl, ?_⟩
          generalize hM : P[j]?.getD (0, []) = m at *
          have cM := isMonomial_c z m hm
          generalize hmb : monB z m = mb at *
          refine CallD.of (cM) (by simp [roots, rootsL]) (by decide) ?_
          simp [go_sem]
          cases mb with
          | false =>
            simp [go_sem]
            refine ⟨by kernel_rfl, ?_⟩
            simp [go_sem]
            rw [hno (by unfold atB; rw [hM, hmb]; rfl)]
          | true =>
            by_cases j0 : 0 < j
            · have hk : j - 1 < P.length := by omega
              have ek : (j : Int) - 1 = ((j - 1 : Nat) : Int) := by omega
              have hyk : P[j - 1]?.getD (0, []) ∈ P := by simp [hk]
              have hmk := hm2 _ hyk
              have cC := Compare_c (P[j - 1]?.getD (0, [])).2 m.2 (by omega) (by omega)
              have hat : atB z P j = ltL (P[j - 1]?.getD (0, [])).2 m.2 := by unfold atB; rw [hM, hmb, decide_eq_false (by omega : ¬ j = 0)]; simp
              have hlt := cmpL_lt (P[j - 1]?.getD (0, [])).2 m.2
              simp [go_sem, j0, ek, mons_drop hk]
              refine ⟨by omega, ⟨hk, by rintro rfl; simp at h⟩, ?_⟩
              generalize (P[j - 1]?.getD (0, [])).2 = pw0 at *
              generalize hc : cmpL pw0 m.2 = c at *
              refine CallD.of (cC) (by simp [roots, rootsL]) (by decide) ?_
              simp [go_sem]
              cases hL : ltL pw0 m.2 with
              | false =>
                rw [hL] at hlt hat
                have hc0 : 0 ≤ c := by simpa using hlt
                simp [go_sem, hc0]
                refine ⟨by kernel_rfl, ?_⟩
                simp [go_sem]
                rw [hno hat]
              | true =>
                rw [hL] at hlt hat
                have hc0 : ¬ 0 ≤ c := by simpa using hlt
                simp [go_sem, hc0]
                refine ⟨by kernel_rfl, ?_⟩
                simp [go_sem]
                refine ⟨by omega, j + 1, ⟨by omega, fun k hk2 => ?_⟩, by omega, Off_reset _ _ _ (by simp), by omega⟩
                by_cases e : k = j
                · rw [e]; exact hat
                · exact hq k (by omega)
            · simp [go_sem, j0]
              refine ⟨by kernel_rfl, ?_⟩
              simp [go_sem]
              have hat : atB z P j = true := by unfold atB; rw [hM, hmb, decide_eq_true (by omega : j = 0)]; rfl
              refine ⟨by omega, j + 1, ⟨by omega, fun k hk2 => ?_⟩, by omega, Off_reset _ _ _ (by simp), by omega⟩
              by_cases e : k = j
              · rw [e]; exact hat
              · exact hq k (by omega)
        · simp [go_sem]
          have hpb : partB z P = true := partB_yes (fun k hk => hq k (by omega))
          refine ⟨by omega, i + 1, ⟨by omega, take_all hif hp (by rw [← hP] at hpb; simpa [hif] using hpb)⟩, by omega, (Off.reset (by intro x hx; simp at hx ⊢; omega) (by simp) (by simp [go_sem, Off_reset])), by omega⟩
      · simp [go_sem]
        rw [List.take_of_length_le h] at hp
        rw [fine, List.all_eq_true.2 hp]
    · simp [go_sem, hz.1, hz.2]
      refine CallD.of (cl) (by simp [roots, rootsL]) (by decide) ?_
      simp [go_sem]
      simp [go_sem, hl]
      refine ⟨by kernel_rfl, ?_⟩
      simp [go_sem]
      unfold fieldB; simp [hl]
  · by_cases z1 : 1 ≤ z
    · have z3 : ¬ z ≤ 3 := fun h => hz ⟨z1, h⟩
      simp [go_sem, z1, z3]
      refine ⟨by kernel_rfl, ?_⟩
      simp [go_sem]
      unfold fieldB; rw [decide_eq_false hz]; simp
    · simp [go_sem, z1]
      refine ⟨by kernel_rfl, ?_⟩
      simp [go_sem]
      unfold fieldB; rw [decide_eq_false hz]; simp
/-- Vectors of a field. -/
def vecB (z : Int) (y : List Int) : Bool := decide ((y.length : Int) = z) && numsB y
theorem isVector_c (z : Int) (n : Nat) (cs : List AV) (y : List Int) (hl : y.length ≤ 9223372036854775807) :
    Con Try.prog 196 [.agg [.int z, .sl n cs], .sl y.length (avs y)] (.bool (vecB z y)) := by
  refine con_of_vc Try.mixed ⟨5, [], [], []⟩ Try.func196 (by decide) rfl (by simp) (by decide) (by simp [freshOK, freshL, go_sem]) ?_
  rw [Try.ntmps196]
  simp [go_sem]
  refine ⟨by kernel_rfl, ?_⟩
  refine CallD.of (length_c _ _ hl) (by simp [roots, rootsL]) (by decide) ?_
  simp [go_sem]
  unfold vecB
  by_cases h : (y.length : Int) = z
  · simp [go_sem, h]
    refine CallD.of (areNumbers_c y hl) (by simp [roots, rootsL]) (by decide) ?_
    simp [go_sem]
    refine ⟨by kernel_rfl, ?_⟩
    simp [go_sem]
  · simp [go_sem, h]
    refine ⟨by kernel_rfl, ?_⟩
    simp [go_sem]
theorem notVector_c (z : Int) (n : Nat) (cs : List AV) (y : List Int) (hl : y.length ≤ 9223372036854775807) :
    Con Try.prog 204 [.sl y.length (avs y), .fptr [.int z, .sl n cs]] (.bool (!vecB z y)) := by
  refine con_of_vc Try.mixed ⟨4, [], [], []⟩ Try.func204 (by decide) rfl (by simp) (by decide) (by simp [freshOK, freshL, go_sem]) ?_
  rw [Try.ntmps204]
  simp [go_sem]
  refine CallVC.of (isVector_c z n cs y hl) (by decide) ?_
  simp [go_sem]
theorem IndexFuncV_c (g : FuncId) (cs : List AV) (p : List Int → Bool) (xss : List (List Int)) (hl : xss.length ≤ 9223372036854775807) (hg : ∀ x ∈ xss, Con Try.prog g [.sl x.length (avs x), .fptr cs] (.bool (p x))) :
    Con Try.prog 231 [.sl xss.length (mat xss), .fn g [.fptr cs]] (.int (idxF p xss)) := by
  refine con_of_vc Try.mixed ⟨6, [], [], []⟩ Try.func231 (by decide) rfl (by simp) (by decide) (by simp [freshOK, freshL, go_sem]) ?_
  rw [Try.ntmps231]
  simp [go_sem]
  refine loop_inv (5 :: List.range' 8 20) (fun i : Nat => [(8, .int i)]) (fun i => i ≤ xss.length ∧ ∀ x ∈ xss.take i, p x = false) (fun i => xss.length - i) 0 (by simp) (by simp [go_sem]) (by simp [go_sem]) ?_
  rintro i ⟨hi, hf⟩
  simp [go_sem]
  have sk := idxF_skip p xss i hf hi
  refine ⟨fun h => ?_, fun h => ?_⟩ <;> simp at h
  · have hx : xss[i]?.getD [] ∈ xss := by simp [h]
    have hd : xss.drop i = xss[i]?.getD [] :: xss.drop (i + 1) := by rw [List.drop_eq_getElem_cons h]; simp [h]
    simp [go_sem, mat_drop h]
    refine ⟨⟨h, by rintro rfl; simp at h⟩, CallVC.of (hg _ hx) (by decide) ?_⟩
    simp [go_sem]
    refine ⟨fun h2 => ?_, fun h2 => ?_⟩ <;> simp [go_sem]
    · rw [sk, hd]; simp [idxF, h2]
    · refine ⟨by omega, i + 1, ⟨by omega, ?_⟩, by omega, Off_reset _ _ _ (by simp), by omega⟩
      intro x hx2
      rw [List.take_add_one, List.getElem?_eq_getElem h, Option.toList_some, List.mem_append, List.mem_singleton] at hx2
      rcases hx2 with hx2 | hx2
      · exact hf x hx2
      · rw [hx2]; simpa [h] using h2
  · simp [go_sem]
    rw [sk, List.drop_eq_nil_of_le h]; simp [idxF]
theorem ContainsFuncV_c (g : FuncId) (cs : List AV) (p : List Int → Bool) (xss : List (List Int)) (hl : xss.length ≤ 9223372036854775807) (hg : ∀ x ∈ xss, Con Try.prog g [.sl x.length (avs x), .fptr cs] (.bool (p x))) :
    Con Try.prog 164 [.sl xss.length (mat xss), .fn g [.fptr cs]] (.bool (xss.any p)) := by
  refine con_of_vc Try.mixed ⟨5, [], [], []⟩ Try.func164 (by decide) rfl (by simp) (by decide) (by simp [freshOK, freshL, go_sem]) ?_
  rw [Try.ntmps164]
  simp [go_sem]
  refine CallVC.of (IndexFuncV_c g cs p xss hl hg) (by decide) ?_
  simp [go_sem]
  simp [idxF_any]
/-- The code for a field and vectors. -/
def chk (z : Int) (f : List (List Mon)) (ys : List (List Int)) : Int := if fieldB z f = true then if ys.any (fun y => !vecB z y) = true then 2 else 0 else 1
theorem checkVectors_c (z : Int) (f : List (List Mon)) (ys : List (List Int)) (hs : Small f) (hl : ys.length ≤ 9223372036854775807) (hr : ∀ y ∈ ys, y.length ≤ 9223372036854775807) :
    Con Try.prog 131 [.agg [.int z, .sl f.length (prt f)], .sl ys.length (mat ys)] (.int (chk z f ys)) := by
  have cI := IsField_c z f hs
  have cC := ContainsFuncV_c 204 [.int z, .sl f.length (prt f)] (fun y => !vecB z y) ys hl (fun y hy => notVector_c z _ _ y (hr y hy))
  unfold chk
  generalize fieldB z f = b at *
  generalize ys.any (fun y => !vecB z y) = c at *
  refine con_of_vc Try.mixed ⟨5, [], [], []⟩ Try.func131 (by decide) rfl (by simp) (by decide) (by simp [freshOK, freshL, go_sem]) ?_
  rw [Try.ntmps131]
  simp [go_sem]
  refine CallVC.of (cI) (by decide) ?_
  simp [go_sem]
  cases b with
  | false =>
    simp [go_sem]
  | true =>
    simp [go_sem]
    refine CallVC.of (cC) (by decide) ?_
    simp [go_sem]
    cases c with
    | false =>
      simp [go_sem]
    | true =>
      simp [go_sem]
end Go.Proofs.Ytoamidolomldnaa

/- Fields: the program's polynomials. -/
namespace Go.Proofs.Ytoamidolomldnaa
open Go.Abs
set_option linter.unusedVariables false
set_option linter.unusedSimpArgs false
set_option maxHeartbeats 1000000
def keyOf (e : List Int) : Key := (e[0]?.getD 0, e[1]?.getD 0, e[2]?.getD 0)
def polG (c : Key → Option Int) : List Mon → Key → Option Int
  | [] => c
  | m :: p => polG (mset c (keyOf m.2) m.1) p
def polF (p : List Mon) : Key → Option Int := polG mzero p
theorem polG_app (c : Key → Option Int) (p q : List Mon) : polG c (p ++ q) = polG (polG c p) q := by
  induction p generalizing c with
  | nil => rfl
  | cons m p ih => exact ih _
theorem polF_take {p : List Mon} {i : Nat} (h : i < p.length) : polF (p.take (i + 1)) = mset (polF (p.take i)) (keyOf (p[i]?.getD (0, [])).2) (p[i]?.getD (0, [])).1 := by
  rw [List.take_add_one, List.getElem?_eq_getElem h, polF, polG_app]; rfl
set_option maxRecDepth 100000 in
theorem polynomialOf_c (p : List Mon) (hp : p.length ≤ 1048576) (hm : ∀ m ∈ p, m.2.length ≤ 3) :
    Con Try.prog 206 [.sl p.length (mons p)] (.mp (polF p)) := by
  refine con_of_vc Try.mixed ⟨7, [], [], []⟩ Try.func206 (by decide) rfl (by simp) (by decide) (by simp [freshOK, freshL, go_sem]) ?_
  rw [Try.ntmps206]
  simp [go_sem]
  refine loop_inv (3 :: 5 :: 6 :: List.range' 10 14) (fun i : Nat => [(3, .mp (polF (p.take i))), (10, .int i)]) (fun i => i ≤ p.length) (fun i => p.length - i) 0 (by simp) (by simp [go_sem, polF, polG]) (by simp [go_sem]) ?_
  intro i hi
  simp [go_sem]
  refine ⟨fun h => ?_, fun h => ?_⟩ <;> simp at h
  · have hif := h
    have hx : p[i]?.getD (0, []) ∈ p := by simp [h]
    have hl := hm _ hx
    have hv := polF_take h
    simp [go_sem, mons_drop hif]
    generalize p[i]?.getD (0, []) = m at *
    obtain ⟨x, e⟩ := m
    simp only at hl hv
    refine ⟨⟨hif, by rintro rfl; simp at hif⟩, by kernel_rfl, ⟨by omega, by omega⟩, ?_⟩
    refine ⟨by kernel_rfl, ?_⟩
    simp [go_sem]
    rcases e with _ | ⟨a, _ | ⟨b, _ | ⟨c, _ | ⟨d, e⟩⟩⟩⟩
    · simp [go_sem, avs]
      refine ⟨by omega, i + 1, by omega, by omega, Off_reset _ _ _ (by simp), hv.symm, by omega⟩
    · simp [go_sem, avs]
      refine ⟨by omega, i + 1, by omega, by omega, Off_reset _ _ _ (by simp), hv.symm, by omega⟩
    · simp [go_sem, avs]
      refine ⟨by omega, i + 1, by omega, by omega, Off_reset _ _ _ (by simp), hv.symm, by omega⟩
    · simp [go_sem, avs]
      refine ⟨by omega, i + 1, by omega, by omega, Off_reset _ _ _ (by simp), hv.symm, by omega⟩
    · simp at hl
  · simp [go_sem]
    rw [List.take_of_length_le h]
def pols (f : List (List Mon)) : List AV := f.map fun p => .mp (polF p)
def fpols (f : List (List Mon)) : List AV := f.map fun p => .fmp (polF p)
@[simp] theorem pols_len (f : List (List Mon)) : (pols f).length = f.length := by simp [pols]
@[simp] theorem fpols_len (f : List (List Mon)) : (fpols f).length = f.length := by simp [fpols]
@[simp] theorem fpols_ne {f : List (List Mon)} : (fpols f = []) = (f = []) := by cases f <;> simp [fpols]
@[simp] theorem pols_frz : ∀ f : List (List Mon), frzL (pols f) = fpols f
  | [] => rfl
  | p :: f => by have := pols_frz f; simp only [pols, fpols, List.map_cons, frzL] at this ⊢; rw [this]; simp [frz]
@[simp] theorem pols_fresh : ∀ f : List (List Mon), freshL (pols f) = true
  | [] => rfl
  | p :: f => by have := pols_fresh f; simp only [pols, List.map_cons, freshL] at this ⊢; rw [this]; simp [freshOK]
theorem fpols_drop {f : List (List Mon)} {k : Nat} (h : k < f.length) : (fpols f).drop k = .fmp (polF (f[k]?.getD [])) :: fpols (f.drop (k + 1)) := by
  rw [fpols, ← List.map_drop, List.drop_eq_getElem_cons h, List.map_cons]; simp [h, fpols]
theorem polynomials_c (z : Int) (f : List (List Mon)) (hf : FieldOk z f) (hs : Small f) :
    Con Try.prog 133 [.agg [.int z, .sl f.length (prt f)]] (.own 142 f.length (pols f)) := by
  have fl := hs.1
  have z3 := hf.hi
  have zl := hf.len
  refine con_of_vc Try.mixed ⟨6, [], [], []⟩ Try.func133 (by decide) rfl (by simp) (by decide) (by simp [freshOK, freshL, go_sem]) ?_
  rw [Try.ntmps133]
  simp [go_sem]
  refine loop_inv (3 :: 5 :: List.range' 10 10) (fun i : Nat => [(3, .own 142 i (pols (f.take i))), (10, .int i)]) (fun i => i ≤ f.length) (fun i => f.length - i) 0 (by simp) (by simp [go_sem, pols]) (by simp [go_sem]) ?_
  intro i hi
  simp [go_sem]
  refine ⟨fun h => ?_, fun h => ?_⟩ <;> simp at h
  · have hif := h
    have hx : f[i]?.getD [] ∈ f := by simp [h]
    have hm := hs.2 _ hx
    simp [go_sem, prt_drop hif]
    refine ⟨⟨hif, by rintro rfl; simp at hif⟩, ?_⟩
    refine CallVC.of (polynomialOf_c _ hm.1 (fun m hm => by have := (partB_mem (hf.part _ hx) hm).len; omega)) (by decide) ?_
    simp [go_sem]
    have e1 : f.take (i + 1) = f.take i ++ [f[i]?.getD []] := by rw [List.take_add_one]; simp [hif]
    refine ⟨⟨by omega, by omega, by omega⟩, by omega, i + 1, by omega, by omega, Off_reset _ _ _ (by simp), ⟨rfl, ?_⟩, by omega⟩
    rw [e1]; simp [pols]
  · simp [go_sem]
    rw [List.take_of_length_le h]
    exact ⟨by omega, rfl⟩
/-- The value of an entry. -/
def tmK (y : List Int) (k : Key) (x : Int) : Int := tmF y [k.1, k.2.1, k.2.2] x y.length
def rest (y : List Int) : List (Key × Int) → Int
  | [] => 0
  | e :: es => tmK y e.1 e.2 + rest y es
theorem rest_app (y : List Int) (a b : List (Key × Int)) : rest y (a ++ b) = rest y a + rest y b := by
  induction a with
  | nil => simp [rest]
  | cons e a ih => simp [rest, ih]; omega
theorem rest_pos (y : List Int) : ∀ {es : List (Key × Int)}, (∀ e ∈ es, isN e.2) → 0 ≤ rest y es
  | [], _ => by simp [rest]
  | e :: es, h => by
    have h1 := rest_pos y (es := es) (fun a ha => h a (by simp [ha]))
    have h2 := (tmF_N (y := y) (e := [e.1.1, e.1.2.1, e.1.2.2]) (h e (by simp)) y.length).1
    simp only [rest, tmK]; omega
/-- That an entry's number is one, and its key's too. -/
def EOk (e : Key × Int) : Prop := isN e.2 ∧ 0 ≤ e.1.1 ∧ e.1.1 ≤ 1000 ∧ 0 ≤ e.1.2.1 ∧ e.1.2.1 ≤ 1000 ∧ 0 ≤ e.1.2.2 ∧ e.1.2.2 ≤ 1000
set_option maxRecDepth 100000 in
theorem value_c (c : Key → Option Int) (y : List Int) (T : Int) (hy : Ns y) (hl : y.length ≤ 3) (hc : ∀ k x, c k = some x → EOk (k, x)) (hT : T ≤ 1000000000000000000) (hE : ∀ es, Enum c es → rest y es = T) :
    Con Try.prog 137 [.fmp c, .sl y.length (avs y)] (.int (T % 10007)) := by
  refine con_of_vc Try.mixed ⟨10, [], [], []⟩ Try.func137 (by decide) rfl (by simp) (by decide) (by simp [freshOK, freshL, go_sem]) ?_
  rw [Try.ntmps137]
  simp [go_sem]
  intro es hes
  have hok : ∀ e ∈ es, EOk e := fun e he => hc e.1 e.2 (hes.val e he)
  have hsum := hE es hes
  refine loop_inv (5 :: 6 :: 7 :: 8 :: 9 :: 11 :: List.range' 12 24) (fun x : Int × Option (Key × Int) × List (Key × Int) => [(5, .int x.1), (11, .it x.2.1 x.2.2)]) (fun x => 0 ≤ x.1 ∧ x.1 + rest y x.2.2 = T ∧ ∀ e ∈ x.2.2, EOk e) (fun x => x.2.2.length) (0, none, es) ⟨by simp, by simpa using hsum, hok⟩ (by simp [go_sem]) (by simp [go_sem]) ?_
  rintro ⟨s, l, rem⟩ ⟨hs0, hsT, hrem⟩
  simp only at hs0 hsT hrem
  simp [go_sem, keyAV]
  refine ⟨fun hr => ?_, fun l1 k0 k1 k2 x l2 hr => ?_⟩
  · subst hr
    have : s = T := by simpa [rest] using hsT
    subst this
    refine CallVC.of (num_c _ (by omega) (by omega)) (by decide) ?_
    simp [go_sem]
  · subst hr
    have hek := hrem ((k0, k1, k2), x) (by simp)
    have hx : isN x := hek.1
    have hg : ∀ i : Nat, 0 ≤ ([k0, k1, k2] : List Int)[i]?.getD 0 ∧ ([k0, k1, k2] : List Int)[i]?.getD 0 ≤ 1000 := by
      intro i
      obtain ⟨_, a1, a2, a3, a4, a5, a6⟩ := hek
      match i with
      | 0 => exact ⟨a1, a2⟩
      | 1 => exact ⟨a3, a4⟩
      | 2 => exact ⟨a5, a6⟩
      | i + 3 => simp
    refine loop_inv (7 :: 8 :: 9 :: List.range' 19 14) (fun i : Nat => [(7, .int (tmF y [k0, k1, k2] x i)), (19, .int i)]) (fun i => i ≤ y.length) (fun i => y.length - i) 0 (by simp) (by simp [go_sem, tmF]) (by simp [go_sem]) ?_
    intro i hi
    simp [go_sem]
    refine ⟨fun h => ?_, fun h => ?_⟩ <;> simp at h
    · have h3 : i < ([k0, k1, k2] : List Int).length := by simp; omega
      have e3 : ([.val (.int .i64 k0), .val (.int .i64 k1), .val (.int .i64 k2)] : List AV)[i]? = some (.val (.int .i64 (([k0, k1, k2] : List Int)[i]?.getD 0))) := avs_at' (xs := [k0, k1, k2]) h3
      have g := hg i
      have m1 := mul_fits (tmF_N (y := y) (e := [k0, k1, k2]) hx i) (isN_mod ((y[i]?.getD 0) ^ (([k0, k1, k2] : List Int)[i]?.getD 0).toNat))
      have m2 : fits (tmF y [k0, k1, k2] x i * pw (y[i]?.getD 0) (([k0, k1, k2] : List Int)[i]?.getD 0)) := m1
      have hs : tmF y [k0, k1, k2] x (i + 1) = tmF y [k0, k1, k2] x i * pw (y[i]?.getD 0) (([k0, k1, k2] : List Int)[i]?.getD 0) % 10007 := rfl
      simp [go_sem, avs_drop h, e3]
      generalize ([k0, k1, k2] : List Int)[i]?.getD 0 = ki at *
      refine ⟨⟨h, by rintro rfl; simp at h⟩, by omega, ?_⟩
      refine CallVC.of (pow_c _ _ (hy.get i) g.1 (by omega)) (by decide) ?_
      simp [go_sem]
      refine ⟨m2, ?_⟩
      refine CallVC.of (num_c _ m2.1 m2.2) (by decide) ?_
      simp [go_sem]
      refine ⟨by omega, i + 1, by omega, by omega, Off_reset _ _ _ (by simp), hs.symm, by omega⟩
    · have e : i = y.length := by omega
      subst e
      have hr0 : 0 ≤ rest y (l1 ++ l2) := rest_pos y (fun e he => (hrem e (by
        rcases List.mem_append.1 he with he | he <;> simp [he])).1)
      have ht := tmF_N (y := y) (e := [k0, k1, k2]) hx y.length
      have hsT2 : s + tmF y [k0, k1, k2] x y.length + rest y (l1 ++ l2) = T := by
        rw [← hsT, rest_app, rest_app, rest]
        show _ = s + (rest y l1 + (tmF y [k0, k1, k2] x y.length + rest y l2))
        omega
      have ht1 := ht.1
      simp [go_sem]
      refine ⟨⟨by omega, by omega⟩, _, _, _, ⟨?_, hsT2, fun a b c d he => hrem _ ?_⟩, ?_, (Off.reset (by intro x hx; simp at hx ⊢; omega) (by simp) (by simp [go_sem, Off_reset])), rfl, rfl, rfl⟩
      · omega
      · rcases List.mem_append.1 he with he | he <;> simp [he]
      · simp
end Go.Proofs.Ytoamidolomldnaa

/- Fields: the sum over a map's entries, in whatever order, is the sum over the part. -/
namespace Go.Proofs.Ytoamidolomldnaa
open Go.Abs
set_option linter.unusedVariables false
set_option linter.unusedSimpArgs false
set_option maxHeartbeats 1000000
theorem ltL_irr : ∀ a : List Int, ltL a a = false
  | [] => rfl
  | x :: a => by simp [ltL, ltL_irr a]
theorem ltL_trans : ∀ {a b c : List Int}, ltL a b = true → ltL b c = true → ltL a c = true
  | _, [], _, h, _ => by simp [ltL] at h
  | _, _ :: _, [], _, h => by simp [ltL] at h
  | [], _ :: _, _ :: _, _, _ => rfl
  | x :: a, y :: b, z :: c, h1, h2 => by
    simp only [ltL] at h1 h2 ⊢
    split at h1
    · rename_i e; subst e
      split at h2
      · rename_i e; subst e; rw [if_pos rfl]; exact ltL_trans h1 h2
      · rename_i e; rw [if_neg e]; exact h2
    · rename_i e1
      simp only [decide_eq_true_eq] at h1
      split at h2
      · rename_i e; subst e; rw [if_neg e1]; simpa using h1
      · rename_i e
        simp only [decide_eq_true_eq] at h2
        rw [if_neg (by omega)]; simp; omega
theorem chain_lt {z : Int} {p : List Mon} (h : partB z p = true) {i : Nat} : ∀ {j : Nat}, i < j → j < p.length → ltL (p[i]?.getD (0, [])).2 (p[j]?.getD (0, [])).2 = true
  | 0, h1, _ => by omega
  | j + 1, h1, h2 => by
    have hs := (partB_at h h2).2 (by omega)
    rw [Nat.add_sub_cancel] at hs
    rcases Nat.lt_or_ge i j with hl | hg
    · exact ltL_trans (chain_lt h hl (by omega)) hs
    · have : i = j := by omega
      subst this; exact hs
theorem keyOf_inj {a b : List Int} (hl : a.length = b.length) (h3 : a.length ≤ 3) (h : keyOf a = keyOf b) : a = b := by
  match a, b, hl, h3 with
  | [], [], _, _ => rfl
  | [x], [y], _, _ => simp [keyOf] at h; rw [h]
  | [x, x'], [y, y'], _, _ => simp [keyOf] at h; rw [h.1, h.2]
  | [x, x', x''], [y, y', y''], _, _ => simp [keyOf] at h; rw [h.1, h.2.1, h.2.2]
def keyM (m : Mon) : Key × Int := (keyOf m.2, m.1)
theorem keys_nd {z : Int} {p : List Mon} (hz : z ≤ 3) (h : partB z p = true) : p.Pairwise (fun a b => keyOf a.2 ≠ keyOf b.2) := by
  rw [List.pairwise_iff_getElem]
  intro i j hi hj hij he
  have hl := chain_lt h hij hj
  have m1 := (partB_at h hi).1.len
  have m2 := (partB_at h hj).1.len
  simp only [List.getElem?_eq_getElem hi, List.getElem?_eq_getElem hj, Option.getD_some] at hl m1 m2
  have := keyOf_inj (by omega) (by omega) he
  rw [this, ltL_irr] at hl
  simp at hl
theorem polG_out : ∀ (p : List Mon) (c : Key → Option Int) (k : Key), (∀ m ∈ p, keyOf m.2 ≠ k) → polG c p k = c k
  | [], c, k, _ => rfl
  | m :: p, c, k, h => by
    rw [polG, polG_out p _ k (fun a ha => h a (by simp [ha]))]
    have := h m (by simp)
    simp [mset, Ne.symm this]
theorem polG_in : ∀ (p : List Mon) (c : Key → Option Int), p.Pairwise (fun a b => keyOf a.2 ≠ keyOf b.2) → ∀ m ∈ p, polG c p (keyOf m.2) = some m.1
  | [], _, _, m, hm => by simp at hm
  | a :: p, c, h, m, hm => by
    obtain ⟨h1, h2⟩ := List.pairwise_cons.1 h
    rw [polG]
    rcases List.mem_cons.1 hm with rfl | hm
    · rw [polG_out p _ _ (fun b hb => Ne.symm (h1 b hb))]; simp [mset]
    · exact polG_in p _ h2 m hm
theorem polF_some {p : List Mon} (h : p.Pairwise (fun a b => keyOf a.2 ≠ keyOf b.2)) {k : Key} {x : Int} : polF p k = some x ↔ (k, x) ∈ p.map keyM := by
  constructor
  · intro hk
    by_cases hin : ∃ m ∈ p, keyOf m.2 = k
    · obtain ⟨m, hm, rfl⟩ := hin
      rw [polF, polG_in p _ h m hm] at hk
      injection hk with hk; subst hk
      exact List.mem_map.2 ⟨m, hm, rfl⟩
    · rw [polF, polG_out p _ k (fun m hm he => hin ⟨m, hm, he⟩)] at hk
      simp [mzero] at hk
  · intro hm
    obtain ⟨m, hm, he⟩ := List.mem_map.1 hm
    simp only [keyM, Prod.mk.injEq] at he
    rw [← he.1, ← he.2]
    exact polG_in p _ h m hm
theorem rest_perm (y : List Int) {a b : List (Key × Int)} (h : a.Perm b) : rest y a = rest y b := by
  induction h with
  | nil => rfl
  | cons x _ ih => simp [rest, ih]
  | swap x z l => simp [rest]; omega
  | trans _ _ i1 i2 => rw [i1, i2]
theorem nodup_of_key {α β : Type} {f : α → β} {l : List α} (h : l.Pairwise (fun a b => f a ≠ f b)) : l.Nodup := h.imp (fun hn e => hn (by rw [e]))
theorem enum_perm {p : List Mon} (h : p.Pairwise (fun a b => keyOf a.2 ≠ keyOf b.2)) {es : List (Key × Int)} (he : Enum (polF p) es) : es.Perm (p.map keyM) := by
  refine (List.perm_ext_iff_of_nodup (nodup_of_key (f := Prod.fst) he.nd) ?_).2 (fun e => ?_)
  · rw [List.Nodup, List.pairwise_map]
    exact h.imp (fun hn e => hn (congrArg Prod.fst e))
  · obtain ⟨k, x⟩ := e
    rw [← polF_some h]
    constructor
    · intro hm; exact he.val _ hm
    · intro hk
      by_cases hin : ∃ q ∈ es, q.1 = k
      · obtain ⟨⟨k', x'⟩, hq, hqk⟩ := hin
        simp only at hqk; subst hqk
        have := he.val _ hq
        simp only at this
        rw [hk] at this
        injection this with this; subst this
        exact hq
      · have := he.out k (fun q hq e => hin ⟨q, hq, e⟩)
        rw [hk] at this; simp at this
theorem tmF_congr {y e e' : List Int} {x : Int} : ∀ {n : Nat}, (∀ i, i < n → e[i]?.getD 0 = e'[i]?.getD 0) → tmF y e x n = tmF y e' x n
  | 0, _ => rfl
  | n + 1, h => by rw [tmF, tmF, tmF_congr (fun i hi => h i (by omega)), h n (by omega)]
theorem tmK_of {y : List Int} (hl : y.length ≤ 3) (m : Mon) : tmK y (keyOf m.2) m.1 = tmF y m.2 m.1 y.length := by
  refine tmF_congr (fun i hi => ?_)
  have : i = 0 ∨ i = 1 ∨ i = 2 := by omega
  rcases this with rfl | rfl | rfl <;> simp [keyOf]
theorem rest_map {y : List Int} (hl : y.length ≤ 3) : ∀ p : List Mon, rest y (p.map keyM) = vsum y p
  | [] => rfl
  | m :: p => by
    rw [List.map_cons, rest, vsum, rest_map hl p]
    show tmK y (keyOf m.2) m.1 + vsum y p = _
    rw [tmK_of hl]
theorem vsum_le (y : List Int) : ∀ p : List Mon, (∀ m ∈ p, isN m.1) → vsum y p ≤ 10006 * p.length
  | [], _ => by simp [vsum]
  | m :: p, h => by
    have h1 := vsum_le y p (fun a ha => h a (by simp [ha]))
    have h2 := (tmF_N (y := y) (e := m.2) (h m (by simp)) y.length).2
    simp only [vsum, List.length_cons]; omega
theorem part_entries {z : Int} {p : List Mon} (hz : z ≤ 3) (h : partB z p = true) {k : Key} {x : Int} (hk : polF p k = some x) : EOk (k, x) := by
  obtain ⟨m, hm, he⟩ := List.mem_map.1 ((polF_some (keys_nd hz h)).1 hk)
  simp only [keyM, Prod.mk.injEq] at he
  obtain ⟨rfl, rfl⟩ := he
  have ho := partB_mem h hm
  have g0 := ho.get 0
  have g1 := ho.get 1
  have g2 := ho.get 2
  have l1 := ho.lo
  have l2 := ho.hi
  unfold EOk isN keyOf
  simp only
  refine ⟨⟨by omega, by omega⟩, by omega, by omega, by omega, by omega, by omega, by omega⟩
end Go.Proofs.Ytoamidolomldnaa

/- The values of maps and of lists of monomials are those of their coefficient functions. -/
namespace Go.Proofs.Ytoamidolomldnaa
open Go.Abs
set_option linter.unusedVariables false
set_option linter.unusedSimpArgs false
set_option maxHeartbeats 1000000
theorem enum_mem {c : Key → Option Int} {es : List (Key × Int)} (he : Enum c es) {k : Key} {x : Int} : (k, x) ∈ es ↔ c k = some x := by
  constructor
  · intro hm; exact he.val _ hm
  · intro hk
    by_cases hin : ∃ q ∈ es, q.1 = k
    · obtain ⟨⟨k', x'⟩, hq, hqk⟩ := hin
      simp only at hqk; subst hqk
      have := he.val _ hq
      simp only at this
      rw [hk] at this
      injection this with this; subst this
      exact hq
    · have := he.out k (fun q hq e => hin ⟨q, hq, e⟩)
      rw [hk] at this; simp at this
theorem enum_unique {c : Key → Option Int} {a b : List (Key × Int)} (ha : Enum c a) (hb : Enum c b) : a.Perm b :=
  (List.perm_ext_iff_of_nodup (nodup_of_key (f := Prod.fst) ha.nd) (nodup_of_key (f := Prod.fst) hb.nd)).2 (fun e => by
    obtain ⟨k, x⟩ := e
    rw [enum_mem ha, enum_mem hb])
def yat (y : List Int) (i : Nat) : Int := y[i]?.getD 0
/-- That a key is one of the first n variables, with exponents up to 3. -/
def KOk (n : Nat) (k : Key) : Prop := k ∈ box ∧ ∀ i, n ≤ i → i < 3 → at3 i k = 0
theorem tmK_trm {y : List Int} {k : Key} {x : Int} (hl : y.length ≤ 3) (hk : KOk y.length k) : tmK y k x % 10007 = x * trm (yat y) k % 10007 := by
  obtain ⟨a, b, c⟩ := k
  obtain ⟨h1, h2⟩ := hk
  unfold tmK trm
  match y, hl with
  | [], _ =>
    have e0 := h2 0 (by simp) (by omega)
    have e1 := h2 1 (by simp) (by omega)
    have e2 := h2 2 (by simp) (by omega)
    simp [at3] at e0 e1 e2
    subst e0; subst e1; subst e2
    simp [tmF]
  | [u], _ =>
    have e1 := h2 1 (by simp) (by omega)
    have e2 := h2 2 (by simp) (by omega)
    simp [at3] at e1 e2
    subst e1; subst e2
    simp [tmF, yat, pw, mod_mul_l, mod_mul_r]
  | [u, v], _ =>
    have e2 := h2 2 (by simp) (by omega)
    simp [at3] at e2
    subst e2
    simp [tmF, yat, pw, mod_mul_l, mod_mul_r, Int.mul_assoc]
  | [u, v, w], _ =>
    simp [tmF, yat, pw, mod_mul_l, mod_mul_r, Int.mul_assoc]
theorem rest_mod {y : List Int} (hl : y.length ≤ 3) : ∀ {es : List (Key × Int)}, (∀ e ∈ es, KOk y.length e.1) → rest y es % 10007 = sumI (fun e => e.2 * trm (yat y) e.1) es % 10007
  | [], _ => rfl
  | e :: es, h => by
    simp only [rest, sumI]
    rw [Int.add_emod, tmK_trm hl (h e (by simp)), rest_mod hl (es := es) (fun a ha => h a (by simp [ha])), ← Int.add_emod]
theorem coef_enum {c : Key → Option Int} {es : List (Key × Int)} (he : Enum c es) (k : Key) : coef Prod.fst Prod.snd es k = (c k).getD 0 := by
  have gen : ∀ (l : List (Key × Int)), l.Pairwise (fun a b => a.1 ≠ b.1) → ∀ x, (k, x) ∈ l → coef Prod.fst Prod.snd l k = x := by
    intro l
    induction l with
    | nil => intro _ x hx; simp at hx
    | cons a l ih =>
      intro hp x hx
      obtain ⟨h1, h2⟩ := List.pairwise_cons.1 hp
      unfold coef at ih ⊢
      simp only [sumI]
      rcases List.mem_cons.1 hx with rfl | hx
      · rw [if_pos rfl, sumI_zero (fun b hb => if_neg (h1 b hb))]; simp
      · rw [if_neg (fun e => h1 _ hx e.symm), ih h2 x hx]; simp
  cases hc : c k with
  | some x => exact gen es he.nd x ((enum_mem he).2 hc)
  | none =>
    unfold coef
    refine sumI_zero (fun e hm => if_neg (fun e1 => ?_))
    have := he.val e hm
    rw [← e1, hc] at this
    simp at this
def gv (c : Key → Option Int) (k : Key) : Int := (c k).getD 0
theorem rest_Val {y : List Int} (hl : y.length ≤ 3) {c : Key → Option Int} (hc : ∀ k x, c k = some x → KOk y.length k) {es : List (Key × Int)} (he : Enum c es) : rest y es % 10007 = Val (yat y) (gv c) % 10007 := by
  rw [rest_mod hl (fun e hm => hc e.1 e.2 (he.val e hm)), ← Val_coef (yat y) Prod.fst Prod.snd es (fun e hm => (hc e.1 e.2 (he.val e hm)).1)]
  have : coef Prod.fst Prod.snd es = gv c := funext (fun k => coef_enum he k)
  rw [this]
end Go.Proofs.Ytoamidolomldnaa

/- Values of maps whatever the order; lists of monomials put together, and their coefficients. -/
namespace Go.Proofs.Ytoamidolomldnaa
open Go.Abs
set_option linter.unusedVariables false
set_option linter.unusedSimpArgs false
set_option maxHeartbeats 1000000
theorem len_sub {α : Type} [DecidableEq α] : ∀ {l b : List α}, l.Nodup → (∀ a ∈ l, a ∈ b) → l.length ≤ b.length
  | [], b, _, _ => by simp
  | a :: l, b, hn, hs => by
    obtain ⟨h1, h2⟩ := List.nodup_cons.1 hn
    have ha := hs a (by simp)
    have := len_sub (l := l) (b := b.erase a) h2 (fun x hx => (List.mem_erase_of_ne (fun e => h1 (by rw [← e]; exact hx))).2 (hs x (by simp [hx])))
    rw [List.length_erase_of_mem ha] at this
    have := List.length_pos_of_mem ha
    simp only [List.length_cons]; omega
theorem rest_le (y : List Int) : ∀ {es : List (Key × Int)}, (∀ e ∈ es, isN e.2) → rest y es ≤ 10006 * es.length
  | [], _ => by simp [rest]
  | e :: es, h => by
    have h1 := rest_le y (es := es) (fun a ha => h a (by simp [ha]))
    have h2 := (tmF_N (y := y) (e := [e.1.1, e.1.2.1, e.1.2.2]) (h e (by simp)) y.length).2
    simp only [rest, tmK, List.length_cons]; omega
theorem KOk.eok {n : Nat} {k : Key} {x : Int} (h : KOk n k) (hx : isN x) : EOk (k, x) := by
  have := mem_box.1 h.1
  show isN x ∧ 0 ≤ k.1 ∧ k.1 ≤ 1000 ∧ 0 ≤ k.2.1 ∧ k.2.1 ≤ 1000 ∧ 0 ≤ k.2.2 ∧ k.2.2 ≤ 1000
  exact ⟨hx, by omega, by omega, by omega, by omega, by omega, by omega⟩
theorem value_c2 (c : Key → Option Int) (y : List Int) (hy : Ns y) (hl : y.length ≤ 3) (hc : ∀ k x, c k = some x → isN x ∧ KOk y.length k) :
    Con Try.prog 137 [.fmp c, .sl y.length (avs y)] (.int (Val (yat y) (gv c) % 10007)) := by
  have hok : ∀ k x, c k = some x → EOk (k, x) := fun k x hk => (hc k x hk).2.eok (hc k x hk).1
  by_cases hx : ∃ es, Enum c es
  · obtain ⟨es, he⟩ := hx
    rw [← rest_Val hl (fun k x hk => (hc k x hk).2) he]
    have hb : rest y es ≤ 10006 * es.length := rest_le y (fun e hm => (hc e.1 e.2 (he.val e hm)).1)
    have hlen : es.length ≤ 64 := by
      have := len_sub (l := es.map Prod.fst) (b := box) (by rw [List.Nodup, List.pairwise_map]; exact he.nd) (fun k hk => by
        obtain ⟨e, hm, rfl⟩ := List.mem_map.1 hk
        exact (hc e.1 e.2 (he.val e hm)).2.1)
      simpa [box, r4] using this
    exact value_c c y (rest y es) hy hl hok (by omega) (fun es' he' => rest_perm y (enum_unique he' he))
  · have := value_c c y (Val (yat y) (gv c) % 10007) hy hl hok (by omega) (fun es he => (hx ⟨es, he⟩).elim)
    rwa [Int.emod_emod_of_dvd _ (Int.dvd_refl _)] at this
/-- A monomial of n variables whose exponents lie in the box. -/
structure VOk (n : Nat) (m : Mon) : Prop where
  num : isN m.1
  len : m.2.length = n
  pw : ∀ x ∈ m.2, 0 ≤ x ∧ x ≤ 3
theorem MonOk.vok {n : Nat} {m : Mon} (h : MonOk (n : Int) m) : VOk n m := ⟨⟨by have := h.lo; omega, by have := h.hi; omega⟩, by have := h.len; omega, h.pw⟩
theorem VOk.kok {n : Nat} {m : Mon} (hn : n ≤ 3) (h : VOk n m) : KOk n (keyOf m.2) := by
  have g : ∀ k : Nat, 0 ≤ m.2[k]?.getD 0 ∧ m.2[k]?.getD 0 ≤ 3 := fun k => by
    rcases Nat.lt_or_ge k m.2.length with hk | hk
    · simp [hk]; exact h.pw _ (List.getElem_mem hk)
    · simp [hk]
  refine ⟨mem_box.2 ⟨(g 0).1, (g 0).2, (g 1).1, (g 1).2, (g 2).1, (g 2).2⟩, fun i h1 h2 => ?_⟩
  have hz : m.2[i]?.getD 0 = 0 := by rw [List.getElem?_eq_none (by rw [h.len]; exact h1)]; rfl
  have : i = 0 ∨ i = 1 ∨ i = 2 := by omega
  rcases this with rfl | rfl | rfl <;> simpa [at3, keyOf] using hz
def cfL (L : List Mon) : Key → Int := coef (fun m : Mon => keyOf m.2) (fun m => m.1) L
theorem vsum_Val {y : List Int} (hl : y.length ≤ 3) {L : List Mon} (h : ∀ m ∈ L, VOk y.length m) : vsum y L % 10007 = Val (yat y) (cfL L) % 10007 := by
  unfold cfL
  rw [Val_coef (yat y) _ _ L (fun m hm => ((h m hm).kok hl).1)]
  have h' := h
  clear h
  induction L with
  | nil => rfl
  | cons m L ih =>
    simp only [vsum, sumI]
    rw [Int.add_emod, ← tmK_of hl m, tmK_trm hl ((h' m (by simp)).kok hl), ih (fun a ha => h' a (by simp [ha])), ← Int.add_emod]
/-- A term put into a list. -/
def putGo (c : Int) (e : List Int) : List Mon → Bool → List Mon
  | [], done => if done then [] else [(c, e)]
  | m :: l, done =>
    if done = false ∧ m.2 = e then (if (m.1 + c) % 10007 = 0 then [] else [((m.1 + c) % 10007, m.2)]) ++ putGo c e l true
    else if done = false ∧ ltL e m.2 = true then (c, e) :: ((if m.1 = 0 then [] else [m]) ++ putGo c e l true)
    else (if m.1 = 0 then [] else [m]) ++ putGo c e l done
def putL (L : List Mon) (c : Int) (e : List Int) : List Mon := putGo c e L (decide (c = 0))
theorem cfL_app (a b : List Mon) (k : Key) : cfL (a ++ b) k = cfL a k + cfL b k := sumI_app _ a b
theorem cfL_cons (m : Mon) (b : List Mon) (k : Key) : cfL (m :: b) k = (if k = keyOf m.2 then m.1 else 0) + cfL b k := rfl
theorem cfL_if (m : Mon) (k : Key) : cfL (if m.1 = 0 then [] else [m]) k = if k = keyOf m.2 then m.1 else 0 := by
  split
  · rename_i h; simp [cfL, coef, sumI, h]
  · simp [cfL, coef, sumI]
theorem putGo_cf (c : Int) (e : List Int) (k : Key) : ∀ (l : List Mon) (done : Bool), cfL (putGo c e l done) k % 10007 = (cfL l k + if done = true then 0 else if k = keyOf e then c else 0) % 10007
  | [], true => by simp [putGo, cfL, coef, sumI]
  | [], false => by simp [putGo, cfL, coef, sumI]
  | m :: l, done => by
    rw [putGo, cfL_cons]
    by_cases h1 : done = false ∧ m.2 = e
    · rw [if_pos h1, cfL_app, h1.1, ← h1.2]
      have := cfL_if ((m.1 + c) % 10007, m.2) k
      simp only at this
      rw [this, Int.add_emod, putGo_cf c m.2 k l true]
      by_cases hk : k = keyOf m.2
      · simp [hk]; omega
      · simp [hk]
    · rw [if_neg h1]
      by_cases h2 : done = false ∧ ltL e m.2 = true
      · rw [if_pos h2, cfL_cons, cfL_app, cfL_if, h2.1]
        have := putGo_cf c e k l true
        simp only [if_true, Int.add_zero] at this
        simp only [Bool.false_eq_true, if_false]
        generalize (if k = keyOf e then c else 0) = B
        generalize (if k = keyOf m.2 then m.1 else 0) = A
        omega
      · rw [if_neg h2, cfL_app, cfL_if]
        have := putGo_cf c e k l done
        omega
theorem putL_cf (L : List Mon) (c : Int) (e : List Int) (k : Key) : cfL (putL L c e) k % 10007 = (cfL L k + if k = keyOf e then c else 0) % 10007 := by
  unfold putL
  rw [putGo_cf]
  by_cases h : c = 0 <;> simp [h]
end Go.Proofs.Ytoamidolomldnaa

/- Derivatives of maps and of lists of monomials, sums of maps: their coefficients. -/
namespace Go.Proofs.Ytoamidolomldnaa
open Go.Abs
set_option linter.unusedVariables false
set_option linter.unusedSimpArgs false
set_option maxHeartbeats 1000000
/-- A map's derivative; a map with a multiple of another one added. -/
def derM (i : Nat) (c : Key → Option Int) (k : Key) : Option Int := match c (inc i k) with
  | some a => if 0 < at3 i k + 1 then some ((at3 i k + 1) * a % 10007) else none
  | none => none
def addM (o q : Key → Option Int) (x : Int) (k : Key) : Option Int := match q k with
  | some a => some (((o k).getD 0 + x % 10007 * a) % 10007)
  | none => o k
theorem derM_gv (i : Nat) (c : Key → Option Int) {k : Key} (hk : 0 ≤ at3 i k) : gv (derM i c) k % 10007 = der i (gv c) k % 10007 := by
  show (derM i c k).getD 0 % 10007 = (at3 i k + 1) * (c (inc i k)).getD 0 % 10007
  unfold derM
  cases c (inc i k) with
  | none => simp
  | some a =>
    simp only
    rw [if_pos (by omega)]
    simp
theorem addM_gv (o q : Key → Option Int) (x : Int) (k : Key) : gv (addM o q x) k % 10007 = (gv o k + x * gv q k) % 10007 := by
  unfold gv addM
  cases q k with
  | none => simp
  | some a =>
    simp only [Option.getD_some]
    rw [Int.emod_emod_of_dvd _ (Int.dvd_refl _), Int.add_emod, mod_mul_l, ← Int.add_emod]
/-- The key below by a variable. -/
def dec (i : Nat) (k : Key) : Key := if i = 0 then (k.1 - 1, k.2.1, k.2.2) else if i = 1 then (k.1, k.2.1 - 1, k.2.2) else (k.1, k.2.1, k.2.2 - 1)
theorem inc_dec {i : Nat} {k q : Key} : inc i k = q ↔ k = dec i q := by
  obtain ⟨a, b, c⟩ := k
  obtain ⟨x, y, z⟩ := q
  unfold inc dec
  split
  · simp; omega
  · split <;> (simp; omega)
theorem at3_dec (i : Nat) (k : Key) : at3 i (dec i k) = at3 i k - 1 := by
  unfold at3 dec
  split
  · rfl
  · split <;> rfl
theorem keyOf_set {e : List Int} {i : Nat} (h3 : i < 3) (hi : i < e.length) : keyOf (e.set i (e[i]?.getD 0 - 1)) = dec i (keyOf e) := by
  have : i = 0 ∨ i = 1 ∨ i = 2 := by omega
  match e, hi with
  | [a], hi => 
    simp at hi; subst hi; simp [keyOf, dec]
  | [a, b], hi =>
    rcases this with rfl | rfl | rfl
    · simp [keyOf, dec]
    · simp [keyOf, dec]
    · simp at hi
  | a :: b :: c :: e, hi => rcases this with rfl | rfl | rfl <;> simp [keyOf, dec]
theorem at3_keyOf {e : List Int} {i : Nat} (h3 : i < 3) : at3 i (keyOf e) = e[i]?.getD 0 := by
  have : i = 0 ∨ i = 1 ∨ i = 2 := by omega
  rcases this with rfl | rfl | rfl <;> rfl
/-- The reference's derivative of a list. -/
def derGo (i : Nat) : List Mon → List Mon → List Mon
  | acc, [] => acc
  | acc, m :: p => derGo i (if 0 < m.2[i]?.getD 0 then putL acc (m.1 * m.2[i]?.getD 0 % 10007) (m.2.set i (m.2[i]?.getD 0 - 1)) else acc) p
def derL (i : Nat) (p : List Mon) : List Mon := derGo i [] p
theorem derGo_app (i : Nat) (acc p q : List Mon) : derGo i acc (p ++ q) = derGo i (derGo i acc p) q := by
  induction p generalizing acc with
  | nil => rfl
  | cons m p ih => exact ih _
theorem derGo_cf {n i : Nat} (hi : i < n) (hn : n ≤ 3) {k : Key} (hk : 0 ≤ at3 i k) : ∀ (p acc : List Mon), (∀ m ∈ p, VOk n m) → cfL (derGo i acc p) k % 10007 = (cfL acc k + der i (cfL p) k) % 10007
  | [], acc, _ => by simp [derGo, der, cfL, coef, sumI]
  | m :: p, acc, h => by
    have hm := h m (by simp)
    have hlen := hm.len
    have hd : der i (cfL (m :: p)) k = (at3 i k + 1) * (if inc i k = keyOf m.2 then m.1 else 0) + der i (cfL p) k := by
      unfold der; rw [cfL_cons, Int.mul_add]
    rw [derGo, derGo_cf hi hn hk p _ (fun a ha => h a (by simp [ha])), hd]
    by_cases hpos : 0 < m.2[i]?.getD 0
    · rw [if_pos hpos, Int.add_emod, putL_cf, keyOf_set (by omega) (by omega)]
      have e : (if k = dec i (keyOf m.2) then m.1 * m.2[i]?.getD 0 % 10007 else 0) % 10007 = (at3 i k + 1) * (if inc i k = keyOf m.2 then m.1 else 0) % 10007 := by
        by_cases hkk : k = dec i (keyOf m.2)
        · rw [if_pos hkk, if_pos (inc_dec.2 hkk)]
          have := at3_dec i (keyOf m.2)
          rw [← hkk, at3_keyOf (by omega)] at this
          rw [this, Int.emod_emod_of_dvd _ (Int.dvd_refl _), Int.mul_comm]
          congr 2; omega
        · rw [if_neg hkk, if_neg (fun e => hkk (inc_dec.1 e))]; simp
      generalize (if k = dec i (keyOf m.2) then m.1 * m.2[i]?.getD 0 % 10007 else 0) = A at *
      generalize (at3 i k + 1) * (if inc i k = keyOf m.2 then m.1 else 0) = B at *
      omega
    · rw [if_neg hpos]
      have e : (at3 i k + 1) * (if inc i k = keyOf m.2 then m.1 else 0) = 0 := by
        by_cases hkk : inc i k = keyOf m.2
        · have h0 : 0 ≤ m.2[i]?.getD 0 := by
            rw [List.getElem?_eq_getElem (by omega), Option.getD_some]; exact (hm.pw _ (List.getElem_mem _)).1
          have := at3_dec i (keyOf m.2)
          rw [← inc_dec.1 hkk, at3_keyOf (by omega)] at this
          rw [show at3 i k + 1 = 0 by omega, Int.zero_mul]
        · rw [if_neg hkk, Int.mul_zero]
      rw [e]; simp
end Go.Proofs.Ytoamidolomldnaa

/- Loops over a map's entries that build a derivative or a sum: the map so far, by what is left. -/
namespace Go.Proofs.Ytoamidolomldnaa
open Go.Abs
set_option linter.unusedVariables false
set_option linter.unusedSimpArgs false
set_option maxHeartbeats 1000000
def hasK (rem : List (Key × Int)) (k : Key) : Bool := rem.any fun e => decide (e.1 = k)
theorem hasK_iff {rem : List (Key × Int)} {k : Key} : hasK rem k = true ↔ ∃ e ∈ rem, e.1 = k := by simp [hasK]
theorem hasK_mid (l1 l2 : List (Key × Int)) (k0 : Key) (x : Int) (k : Key) : hasK (l1 ++ (k0, x) :: l2) k = (decide (k0 = k) || hasK (l1 ++ l2) k) := by
  simp only [hasK, List.any_append, List.any_cons]
  cases List.any l1 (fun e => decide (e.1 = k)) <;> cases decide (k0 = k) <;> simp
theorem hasK_not {l1 l2 : List (Key × Int)} {k0 : Key} {x : Int} (h : (l1 ++ (k0, x) :: l2).Pairwise (fun a b => a.1 ≠ b.1)) : hasK (l1 ++ l2) k0 = false := by
  cases hb : hasK (l1 ++ l2) k0 with
  | false => rfl
  | true =>
    obtain ⟨e, he, hk⟩ := hasK_iff.1 hb
    obtain ⟨h1, h2, h3⟩ := List.pairwise_append.1 h
    rcases List.mem_append.1 he with he | he
    · exact (h3 e he (k0, x) (by simp) hk).elim
    · exact ((List.pairwise_cons.1 h2).1 e he hk.symm).elim
/-- The derivative so far, where rem is left. -/
def remD (i : Nat) (c : Key → Option Int) (rem : List (Key × Int)) (k : Key) : Option Int := if hasK rem (inc i k) = true then none else derM i c k
theorem remD_start {i : Nat} {c : Key → Option Int} {es : List (Key × Int)} (he : Enum c es) : remD i c es = mzero := by
  funext k
  unfold remD mzero
  split
  · rfl
  · rename_i h
    have : c (inc i k) = none := he.out _ (fun p hp e => h (hasK_iff.2 ⟨p, hp, e⟩))
    simp [derM, this]
theorem remD_end (i : Nat) (c : Key → Option Int) : remD i c [] = derM i c := by
  funext k; simp [remD, hasK]
theorem remD_at {i : Nat} {c : Key → Option Int} {l1 l2 : List (Key × Int)} {k0 : Key} {x : Int} : remD i c (l1 ++ (k0, x) :: l2) (dec i k0) = none := by
  unfold remD
  rw [inc_dec.2 rfl, hasK_mid]
  simp
theorem remD_skip {i : Nat} {c : Key → Option Int} {l1 l2 : List (Key × Int)} {k0 : Key} {x : Int} (h : (l1 ++ (k0, x) :: l2).Pairwise (fun a b => a.1 ≠ b.1)) (hc : c k0 = some x) (h0 : ¬ 0 < at3 i k0) :
    remD i c (l1 ++ (k0, x) :: l2) = remD i c (l1 ++ l2) := by
  funext k
  unfold remD
  rw [hasK_mid]
  by_cases hk : k0 = inc i k
  · have hd : k = dec i k0 := inc_dec.1 hk.symm
    have ha := at3_dec i k0
    rw [← hd] at ha
    have : derM i c k = none := by
      unfold derM
      rw [← hk, hc]
      simp only
      rw [if_neg (by omega)]
    rw [this]; simp
  · simp [hk]
theorem remD_step {i : Nat} {c : Key → Option Int} {l1 l2 : List (Key × Int)} {k0 : Key} {x : Int} (h : (l1 ++ (k0, x) :: l2).Pairwise (fun a b => a.1 ≠ b.1)) (hc : c k0 = some x) (h0 : 0 < at3 i k0) :
    mset (remD i c (l1 ++ (k0, x) :: l2)) (dec i k0) (at3 i k0 * x % 10007) = remD i c (l1 ++ l2) := by
  funext k
  unfold mset
  by_cases hk : k = dec i k0
  · have hi : inc i k = k0 := inc_dec.2 hk
    rw [if_pos hk]
    unfold remD
    rw [hi, hasK_not h]
    have ha := at3_dec i k0
    rw [← hk] at ha
    simp only [Bool.false_eq_true, if_false]
    unfold derM
    rw [hi, hc]
    simp only
    rw [if_pos (by omega), show at3 i k + 1 = at3 i k0 by omega]
  · rw [if_neg hk]
    unfold remD
    rw [hasK_mid]
    have : ¬ k0 = inc i k := fun e => hk (inc_dec.1 e.symm)
    simp [this]
/-- The sum so far, where rem is left. -/
def remA (o q : Key → Option Int) (x : Int) (rem : List (Key × Int)) (k : Key) : Option Int := if hasK rem k = true then o k else addM o q x k
theorem remA_start {o q : Key → Option Int} {x : Int} {es : List (Key × Int)} (he : Enum q es) : remA o q x es = o := by
  funext k
  unfold remA
  split
  · rfl
  · rename_i h
    have : q k = none := he.out _ (fun p hp e => h (hasK_iff.2 ⟨p, hp, e⟩))
    simp [addM, this]
theorem remA_end (o q : Key → Option Int) (x : Int) : remA o q x [] = addM o q x := by
  funext k; simp [remA, hasK]
theorem remA_at {o q : Key → Option Int} {x : Int} {l1 l2 : List (Key × Int)} {k0 : Key} {a : Int} : remA o q x (l1 ++ (k0, a) :: l2) k0 = o k0 := by
  unfold remA
  rw [hasK_mid]
  simp
theorem remA_step {o q : Key → Option Int} {x : Int} {l1 l2 : List (Key × Int)} {k0 : Key} {a : Int} (h : (l1 ++ (k0, a) :: l2).Pairwise (fun a b => a.1 ≠ b.1)) (hc : q k0 = some a) :
    mset (remA o q x (l1 ++ (k0, a) :: l2)) k0 (((o k0).getD 0 + x % 10007 * a) % 10007) = remA o q x (l1 ++ l2) := by
  funext k
  unfold mset
  by_cases hk : k = k0
  · subst hk
    rw [if_pos rfl]
    unfold remA
    rw [hasK_not h]
    simp [addM, hc]
  · rw [if_neg hk]
    unfold remA
    rw [hasK_mid]
    have : ¬ k0 = k := fun e => hk e.symm
    simp [this]
end Go.Proofs.Ytoamidolomldnaa

/- The reference's derivative of a part has the value of the program's. -/
namespace Go.Proofs.Ytoamidolomldnaa
open Go.Abs
set_option linter.unusedVariables false
set_option linter.unusedSimpArgs false
set_option maxHeartbeats 1000000
theorem putGo_ok {n : Nat} {c : Int} {e : List Int} (h : VOk n (c, e)) : ∀ (l : List Mon) (done : Bool), (∀ m ∈ l, VOk n m) → ∀ m ∈ putGo c e l done, VOk n m
  | [], true, _, m, hm => by simp [putGo] at hm
  | [], false, _, m, hm => by simp [putGo] at hm; rw [hm]; exact h
  | a :: l, done, hl, m, hm => by
    have ha := hl a (by simp)
    have ih := fun d => putGo_ok h l d (fun b hb => hl b (by simp [hb]))
    have one : ∀ b : Mon, VOk n b → m ∈ (if b.1 = 0 then [] else [b]) → VOk n m := fun b hb hmm => by
      split at hmm
      · simp at hmm
      · simp at hmm; rw [hmm]; exact hb
    rw [putGo] at hm
    split at hm
    · rcases List.mem_append.1 hm with hm | hm
      · exact one ((a.1 + c) % 10007, a.2) ⟨isN_mod _, ha.len, ha.pw⟩ hm
      · exact ih _ m hm
    · split at hm
      · rcases List.mem_cons.1 hm with hm | hm
        · rw [hm]; exact h
        · rcases List.mem_append.1 hm with hm | hm
          · exact one a ha hm
          · exact ih _ m hm
      · rcases List.mem_append.1 hm with hm | hm
        · exact one a ha hm
        · exact ih _ m hm
theorem VOk.low {n i : Nat} {m : Mon} (h : VOk n m) (hi : i < n) (hp : 0 < m.2[i]?.getD 0) : VOk n (m.1 * m.2[i]?.getD 0 % 10007, m.2.set i (m.2[i]?.getD 0 - 1)) := by
  have hl := h.len
  refine ⟨isN_mod _, by simpa using hl, fun x hx => ?_⟩
  rcases List.mem_or_eq_of_mem_set hx with hx | rfl
  · exact h.pw x hx
  · have hm : m.2[i]?.getD 0 ∈ m.2 := by
      rw [List.getElem?_eq_getElem (by omega), Option.getD_some]; exact List.getElem_mem _
    have := h.pw _ hm
    omega
theorem derGo_ok {n i : Nat} (hi : i < n) : ∀ (p acc : List Mon), (∀ m ∈ p, VOk n m) → (∀ m ∈ acc, VOk n m) → ∀ m ∈ derGo i acc p, VOk n m
  | [], acc, _, ha, m, hm => ha m hm
  | a :: p, acc, hp, ha, m, hm => by
    rw [derGo] at hm
    have hav := hp a (by simp)
    refine derGo_ok hi p _ (fun b hb => hp b (by simp [hb])) ?_ m hm
    split
    · rename_i hpos
      exact fun b hb => putGo_ok (hav.low hi hpos) acc _ ha b hb
    · exact ha
theorem derL_ok {n i : Nat} (hi : i < n) {p : List Mon} (hp : ∀ m ∈ p, VOk n m) : ∀ m ∈ derL i p, VOk n m := derGo_ok hi p [] hp (by simp)
theorem derL_cf {n i : Nat} (hi : i < n) (hn : n ≤ 3) {k : Key} (hk : 0 ≤ at3 i k) {p : List Mon} (hp : ∀ m ∈ p, VOk n m) : cfL (derL i p) k % 10007 = der i (cfL p) k % 10007 := by
  unfold derL
  rw [derGo_cf hi hn hk p [] hp]
  simp [cfL, coef, sumI]
theorem sumI_map {α β : Type} (g : α → β) (f : β → Int) : ∀ l : List α, sumI f (l.map g) = sumI (fun a => f (g a)) l
  | [] => rfl
  | a :: l => by rw [List.map_cons, sumI, sumI, sumI_map g f l]
theorem polF_enum {p : List Mon} (h : p.Pairwise (fun a b => keyOf a.2 ≠ keyOf b.2)) : Enum (polF p) (p.map keyM) := by
  refine ⟨?_, fun e he => ?_, fun k hk => ?_⟩
  · rw [List.pairwise_map]; exact h
  · obtain ⟨k, x⟩ := e
    exact (polF_some h).2 he
  · cases hc : polF p k with
    | none => rfl
    | some x => exact (hk _ ((polF_some h).1 hc) rfl).elim
theorem polF_gv {p : List Mon} (h : p.Pairwise (fun a b => keyOf a.2 ≠ keyOf b.2)) (k : Key) : gv (polF p) k = cfL p k := by
  unfold gv
  rw [← coef_enum (polF_enum h) k]
  unfold coef cfL coef
  rw [sumI_map]
  rfl
theorem at3_box {k : Key} (h : k ∈ box) (i : Nat) : 0 ≤ at3 i k := by
  have := mem_box.1 h
  unfold at3
  split
  · omega
  · split <;> omega
/-- What a derivative of a part is worth. -/
theorem jac_eq {n i : Nat} {p : List Mon} {y : List Int} (hn : n ≤ 3) (hi : i < n) (hl : y.length = n) (hp : partB (n : Int) p = true) :
    vsum y (derL i p) % 10007 = Val (yat y) (gv (derM i (polF p))) % 10007 := by
  have hv : ∀ m ∈ p, VOk n m := fun m hm => (partB_mem hp hm).vok
  rw [vsum_Val (by omega) (by rw [hl]; exact derL_ok hi hv)]
  refine Val_mod _ (fun k hk => ?_)
  rw [derL_cf hi hn (at3_box hk i) hv, derM_gv i _ (at3_box hk i)]
  have : gv (polF p) = cfL p := funext (polF_gv (keys_nd (by omega) hp))
  rw [this]
theorem derM_ok {n i : Nat} {c : Key → Option Int} (hi : i < n) (hn : n ≤ 3) (hc : ∀ k x, c k = some x → isN x ∧ KOk n k) : ∀ k x, derM i c k = some x → isN x ∧ KOk n k := by
  intro k x hx
  unfold derM at hx
  cases hcc : c (inc i k) with
  | none => rw [hcc] at hx; simp at hx
  | some a =>
    rw [hcc] at hx
    simp only at hx
    split at hx
    · rename_i hpos
      injection hx with hx
      obtain ⟨_, hb, hz⟩ := hc _ _ hcc
      refine ⟨by rw [← hx]; exact isN_mod _, ?_, fun j h1 h2 => ?_⟩
      · have hb := mem_box.1 hb
        refine mem_box.2 ?_
        clear hz hcc hc
        obtain ⟨a, b, c⟩ := k
        have hi3 : i = 0 ∨ i = 1 ∨ i = 2 := by omega
        rcases hi3 with rfl | rfl | rfl <;> simp [at3, inc] at hb hpos ⊢ <;> omega
      · have := hz j h1 h2
        have hne : j ≠ i := by omega
        have : j = 0 ∨ j = 1 ∨ j = 2 := by omega
        have hi3 : i = 0 ∨ i = 1 ∨ i = 2 := by omega
        rcases this with rfl | rfl | rfl <;> rcases hi3 with rfl | rfl | rfl <;> simp [at3, inc] at * <;> omega
    · simp at hx
end Go.Proofs.Ytoamidolomldnaa
