/- Texts of the own layer and contracts, part 6: C0 C1 C4 C5 O C6 C7 C8 C2 C9 C10 C11 C12 F0 OF F1 F2 F3 F4 F5 F6 F7 P0 P1 P2 P3 P4 P5 P6 C13 Q0 G0 G1 Q1 Q2 L3 Q9 Q3 Q29 Q35 Q37 V0 Q4 Q5 P7 Q6 Q7 Q8 Q42 V14 Q10 Q11 LK V15 V16 OD L36. -/
import Derived.Test.YtoeikpioonlmfaaRows
import Derived.WalkKit
import Derived.ProofKit
import Derived.OpenShut
import Derived.Test.YtoeikpioonlmfaaM5
namespace Go.Abs
def avs (xs : List Int) : List AV := xs.map AV.int
@[simp] theorem avs_len (xs : List Int) : (avs xs).length = xs.length := by simp [avs]
@[simp] theorem avs_nil : avs [] = [] := rfl
theorem avs_snoc (xs : List Int) (x : Int) : avs (xs ++ [x]) = avs xs ++ [.val (.int .i64 x)] := by simp [avs]
theorem avs_cons (xs : List Int) (x : Int) : avs (x :: xs) = .val (.int .i64 x) :: avs xs := by simp [avs]
theorem avs_app (xs ys : List Int) : avs (xs ++ ys) = avs xs ++ avs ys := by simp [avs]
theorem avs_drop {xs : List Int} {k : Nat} (h : k < xs.length) : (avs xs).drop k = .val (.int .i64 (xs.getD k 0)) :: avs (xs.drop (k + 1)) := by
  rw [avs, ← List.map_drop, List.drop_eq_getElem_cons h, List.map_cons]; simp [h, avs]
@[simp] theorem avs_inj {xs ys : List Int} : (avs xs = avs ys) = (xs = ys) := by
  apply propext
  constructor
  · intro h
    induction xs generalizing ys with
    | nil => cases ys with
      | nil => rfl
      | cons y ys => simp [avs] at h
    | cons x xs ih => cases ys with
      | nil => simp [avs] at h
      | cons y ys =>
        rw [avs_cons, avs_cons] at h
        injection h with h1 h2
        injection h1 with h1
        injection h1 with _ h1
        rw [h1, ih h2]
  · rintro rfl; rfl
theorem avs_set (xs : List Int) (k : Nat) (x : Int) : (avs xs).set k (.val (.int .i64 x)) = avs (xs.set k x) := by
  simp [avs, List.map_set]
theorem avs_repl (n : Nat) (x : Int) : List.replicate n (AV.val (.int .i64 x)) = avs (List.replicate n x) := by simp [avs]
@[simp] theorem avs_fresh (xs : List Int) : freshL (avs xs) = true := by
  induction xs with
  | nil => rfl
  | cons x xs ih => simp [avs_cons, freshL, ih, freshOK]
@[simp] theorem avs_frz (xs : List Int) : frzL (avs xs) = avs xs := by
  induction xs with
  | nil => rfl
  | cons x xs ih => simp [avs_cons, frzL, ih, frz]
@[simp] theorem avs_kl (W : List Nat) (xs : List Int) : klL W (avs xs) = avs xs := by
  induction xs with
  | nil => rfl
  | cons x xs ih => simp [avs_cons, klL, ih, kl]
@[simp] theorem avs_own (xs : List Int) : hasOwnL (avs xs) = false := by
  induction xs with
  | nil => rfl
  | cons x xs ih => simp [avs_cons, hasOwnL, ih, hasOwn]
@[simp] theorem avs_ne {xs : List Int} : (avs xs = []) = (xs = []) := by
  cases xs <;> simp [avs]
end Go.Abs


namespace Go.Proofs.Ytoeikpioonlmfaa
open Go.Abs
set_option linter.unusedSectionVars false
set_option linter.unusedVariables false
set_option linter.unusedSimpArgs false
set_option maxHeartbeats 400000
theorem inRange_c (n a b : Int) : Con Try.prog 58 [.int n, .int a, .int b] (.bool (decide (a ≤ n) && decide (n ≤ b))) := by
  refine con_of_vc Try.mixed ⟨4, [], [], []⟩ Try.func58 (by decide) rfl (by simp) (by decide) rfl ?_
  rw [Try.ntmps58]
  simp [go_sem]
  refine ⟨fun h => ?_, fun h => ?_⟩ <;> simp at h <;> simp [go_sem, h] <;> omega
theorem l01In_c (n a b : Int) : Con Try.prog 33 [.int n, .int a, .int b] (.bool (decide (a ≤ n) && decide (n ≤ b))) := by
  refine con_of_vc Try.mixed ⟨4, [], [], []⟩ Try.func33 (by decide) rfl (by simp) (by decide) rfl ?_
  rw [Try.ntmps33]
  simp [go_sem]
  refine ⟨fun h => ?_, fun h => ?_⟩ <;> simp at h <;> simp [go_sem, h] <;> omega
def held (xs : List Int) (k : Int) : Int := if xs = (List.range xs.length).map (fun (i : Nat) => k + i) then k + xs.length else -1
theorem eqInt64S_c (xs ys : List Int) (hx : xs.length ≤ 9223372036854775807) : Con Try.prog 23 [.sl xs.length (avs xs), .sl ys.length (avs ys)] (.bool (decide (xs = ys))) := by
  refine con_of_vc Try.mixed ⟨6, [], [], []⟩ Try.func23 (by decide) rfl (by simp) (by decide) rfl ?_
  rw [Try.ntmps23]
  simp [go_sem]
  refine ⟨fun h => ?_, fun h => ?_⟩ <;> simp at h <;> simp [go_sem]
  · rintro rfl; omega
  have hl : xs.length = ys.length := by omega
  refine loop_inv (List.range' 4 30) (fun i : Nat => [(5, .int i)]) (fun i => i ≤ xs.length ∧ xs.take i = ys.take i) (fun i => xs.length - i) 0 (by simp) (by simp [go_sem]) (by simp [go_sem]) ?_
  intro i hi
  simp [go_sem]
  refine ⟨fun h => ?_, fun h => ?_⟩ <;> simp at h
  · simp [go_sem, avs_drop h, avs_drop (show i < ys.length by omega)]
    refine ⟨by kernel_rfl, ⟨by omega, by rintro rfl; simp at h⟩, ⟨by omega, fun e => by rw [e] at hl; rw [hl] at h; simp at h⟩, by kernel_rfl, ?_⟩
    refine ⟨fun h2 => ?_, fun h2 => ?_⟩ <;> simp at h2 <;> simp [go_sem]
    · rintro rfl; exact h2 rfl
    · refine ⟨by omega, i + 1, ⟨by omega, ?_⟩, by omega, Off_reset _ _ _ (by simp), by omega⟩
      rw [List.take_add_one, List.take_add_one, hi.2]
      rw [List.getElem?_eq_getElem h, List.getElem?_eq_getElem (show i < ys.length by omega)] at h2 ⊢
      simp only [Option.getD_some] at h2
      rw [h2]
  · simp [go_sem]
    have e : i = xs.length := by omega
    subst e
    have := hi.2
    rw [List.take_length, hl, List.take_length] at this
    exact this
end Go.Proofs.Ytoeikpioonlmfaa


namespace Go.Proofs.Ytoeikpioonlmfaa
open Go.Abs
set_option linter.unusedSectionVars false
set_option linter.unusedVariables false
set_option linter.unusedSimpArgs false
set_option maxHeartbeats 1000000
def idxF {α : Type} (p : α → Bool) : List α → Int
  | [] => -1
  | x :: xs => if p x then 0 else if idxF p xs = -1 then -1 else idxF p xs + 1
theorem idxF_ge {α : Type} (p : α → Bool) : ∀ xs : List α, -1 ≤ idxF p xs ∧ idxF p xs < xs.length
  | [] => by simp [idxF]
  | x :: xs => by
    have := idxF_ge p xs
    simp only [idxF, List.length_cons]
    split
    · omega
    · split <;> omega
theorem idxF_any {α : Type} (p : α → Bool) (xs : List α) : decide (0 ≤ idxF p xs) = xs.any p := by
  induction xs with
  | nil => simp [idxF]
  | cons x xs ih =>
    have := idxF_ge p xs
    simp only [idxF, List.any_cons, ← ih]
    by_cases hp : p x = true
    · simp [hp]
    · simp only [hp]
      simp
      split
      · rename_i e; simp [e]
      · by_cases h : 0 ≤ idxF p xs <;> simp [h] <;> omega
theorem idxF_skip {α : Type} (p : α → Bool) : ∀ (xs : List α) (i : Nat), (∀ x ∈ xs.take i, p x = false) → i ≤ xs.length → (idxF p xs = if idxF p (xs.drop i) = -1 then -1 else idxF p (xs.drop i) + i)
  | xs, 0, h, hl => by simp
  | [], i + 1, h, hl => by simp at hl
  | x :: xs, i + 1, h, hl => by
    have h1 : p x = false := h x (by simp)
    have h2 := idxF_skip p xs i (fun y hy => h y (by simp [hy])) (by simpa using hl)
    simp only [idxF, h1, List.drop_succ_cons]
    have := (idxF_ge p (xs.drop i)).1
    simp
    rw [h2]
    split
    · simp
    · rename_i hne
      rw [if_neg (by omega)]
      omega
theorem IndexFuncI_c (g : FuncId) (p : Int → Bool) (xs : List Int) (hl : xs.length ≤ 9223372036854775807) (hg : ∀ x ∈ xs, Con Try.prog g [.int x] (.bool (p x))) :
    Con Try.prog 86 [.sl xs.length (avs xs), .val (.func (.func g) #[] #[])] (.int (idxF p xs)) := by
  refine con_of_vc Try.mixed ⟨6, [], [], []⟩ Try.func86 (by decide) rfl (by simp) (by decide) rfl ?_
  rw [Try.ntmps86]
  simp [go_sem]
  refine loop_inv (5 :: List.range' 8 20) (fun i : Nat => [(8, .int i)]) (fun i => i ≤ xs.length ∧ ∀ x ∈ xs.take i, p x = false) (fun i => xs.length - i) 0 (by simp) (by simp [go_sem]) (by simp [go_sem]) ?_
  rintro i ⟨hi, hf⟩
  simp [go_sem]
  have sk := idxF_skip p xs i hf hi
  refine ⟨fun h => ?_, fun h => ?_⟩ <;> simp at h
  · have hx : xs[i]?.getD 0 ∈ xs := by simp [h]
    have hd : xs.drop i = xs[i]?.getD 0 :: xs.drop (i + 1) := by rw [List.drop_eq_getElem_cons h]; simp [h]
    simp [go_sem, avs_drop h]
    refine ⟨⟨h, by rintro rfl; simp at h⟩, CallVC.of (hg _ hx) (by decide) ?_⟩
    simp [go_sem]
    refine ⟨fun h2 => ?_, fun h2 => ?_⟩ <;> simp [go_sem]
    · rw [sk, hd]; simp [idxF, h2]
    · refine ⟨by omega, i + 1, ⟨by omega, ?_⟩, by omega, Off_reset _ _ _ (by simp), by omega⟩
      intro x hx2
      rw [List.take_add_one, List.getElem?_eq_getElem h, Option.toList_some, List.mem_append, List.mem_singleton] at hx2
      rcases hx2 with hx2 | hx2
      · exact hf x hx2
      · rw [hx2]; simpa [h] using h2
  · simp [go_sem]
    rw [sk, List.drop_eq_nil_of_le h]; simp [idxF]
theorem ContainsFuncI_c (g : FuncId) (p : Int → Bool) (xs : List Int) (hl : xs.length ≤ 9223372036854775807) (hg : ∀ x ∈ xs, Con Try.prog g [.int x] (.bool (p x))) :
    Con Try.prog 70 [.sl xs.length (avs xs), .val (.func (.func g) #[] #[])] (.bool (xs.any p)) := by
  refine con_of_vc Try.mixed ⟨5, [], [], []⟩ Try.func70 (by decide) rfl (by simp) (by decide) rfl ?_
  rw [Try.ntmps70]
  simp [go_sem]
  refine CallVC.of (IndexFuncI_c g p xs hl hg) (by decide) ?_
  simp [go_sem, idxF_any]
theorem IsNumber_c (a : Int) : Con Try.prog 72 [.int a] (.bool (decide (0 ≤ a ∧ a ≤ 10006))) := by
  refine con_of_vc Try.mixed ⟨3, [], [], []⟩ Try.func72 (by decide) rfl (by simp) (by decide) rfl ?_
  rw [Try.ntmps72]
  simp [go_sem]
  refine CallVC.of (inRange_c _ _ _) (by decide) ?_
  simp [go_sem]
theorem notNumber_c (a : Int) : Con Try.prog 71 [.int a] (.bool (!decide (0 ≤ a ∧ a ≤ 10006))) := by
  refine con_of_vc Try.mixed ⟨3, [], [], []⟩ Try.func71 (by decide) rfl (by simp) (by decide) rfl ?_
  rw [Try.ntmps71]
  simp [go_sem]
  refine CallVC.of (IsNumber_c _) (by decide) ?_
  simp [go_sem]
def numsB (xs : List Int) : Bool := xs.all fun a => decide (0 ≤ a ∧ a ≤ 10006)
theorem areNumbers_c (xs : List Int) (hl : xs.length ≤ 9223372036854775807) : Con Try.prog 57 [.sl xs.length (avs xs)] (.bool (numsB xs)) := by
  refine con_of_vc Try.mixed ⟨3, [], [], []⟩ Try.func57 (by decide) rfl (by simp) (by decide) rfl ?_
  rw [Try.ntmps57]
  simp [go_sem]
  refine CallVC.of (ContainsFuncI_c _ _ xs hl (fun x _ => notNumber_c x)) (by decide) ?_
  simp [go_sem, numsB, List.not_any_eq_all_not]
end Go.Proofs.Ytoeikpioonlmfaa


namespace Go.Proofs.Ytoeikpioonlmfaa
open Go.Abs
set_option linter.unusedSectionVars false
set_option linter.unusedVariables false
set_option linter.unusedSimpArgs false
set_option maxHeartbeats 1000000
def mat (xss : List (List Int)) : List AV := xss.map fun r => .sl r.length (avs r)
@[simp] theorem mat_len (xss : List (List Int)) : (mat xss).length = xss.length := by simp [mat]
theorem mat_drop {xss : List (List Int)} {k : Nat} (h : k < xss.length) : (mat xss).drop k = .sl (xss[k]?.getD []).length (avs (xss[k]?.getD [])) :: mat (xss.drop (k + 1)) := by
  rw [mat, ← List.map_drop, List.drop_eq_getElem_cons h, List.map_cons]; simp [h, mat]
@[simp] theorem mat_ne {xss : List (List Int)} : (mat xss = []) = (xss = []) := by cases xss <;> simp [mat]
theorem IndexFuncM_c (g : FuncId) (s : Int) (p : List Int → Bool) (xss : List (List Int)) (hl : xss.length ≤ 9223372036854775807) (hg : ∀ x ∈ xss, Con Try.prog g [.sl x.length (avs x), .fptr [.int s]] (.bool (p x))) :
    Con Try.prog 73 [.sl xss.length (mat xss), .fn g [.fptr [.int s]]] (.int (idxF p xss)) := by
  refine con_of_vc Try.mixed ⟨6, [], [], []⟩ Try.func73 (by decide) rfl (by simp) (by decide) rfl ?_
  rw [Try.ntmps73]
  simp [go_sem]
  refine loop_inv (5 :: List.range' 8 20) (fun i : Nat => [(8, .int i)]) (fun i => i ≤ xss.length ∧ ∀ x ∈ xss.take i, p x = false) (fun i => xss.length - i) 0 (by simp) (by simp [go_sem]) (by simp [go_sem]) ?_
  rintro i ⟨hi, hf⟩
  simp [go_sem]
  have sk := idxF_skip p xss i hf hi
  refine ⟨fun h => ?_, fun h => ?_⟩ <;> simp at h
  · have hx : xss[i]?.getD [] ∈ xss := by simp [h]
    have hd : xss.drop i = xss[i]?.getD [] :: xss.drop (i + 1) := by rw [List.drop_eq_getElem_cons h]; simp [h]
    simp [go_sem, mat_drop h]
    refine ⟨⟨h, by rintro rfl; simp at h⟩, CallVC.of (hg _ hx) (by decide) ?_⟩
    simp [go_sem]
    refine ⟨fun h2 => ?_, fun h2 => ?_⟩ <;> simp [go_sem]
    · rw [sk, hd]; simp [idxF, h2]
    · refine ⟨by omega, i + 1, ⟨by omega, ?_⟩, by omega, Off_reset _ _ _ (by simp), by omega⟩
      intro x hx2
      rw [List.take_add_one, List.getElem?_eq_getElem h, Option.toList_some, List.mem_append, List.mem_singleton] at hx2
      rcases hx2 with hx2 | hx2
      · exact hf x hx2
      · rw [hx2]; simpa [h] using h2
  · simp [go_sem]
    rw [sk, List.drop_eq_nil_of_le h]; simp [idxF]
theorem ContainsFuncM_c (g : FuncId) (s : Int) (p : List Int → Bool) (xss : List (List Int)) (hl : xss.length ≤ 9223372036854775807) (hg : ∀ x ∈ xss, Con Try.prog g [.sl x.length (avs x), .fptr [.int s]] (.bool (p x))) :
    Con Try.prog 60 [.sl xss.length (mat xss), .fn g [.fptr [.int s]]] (.bool (xss.any p)) := by
  refine con_of_vc Try.mixed ⟨5, [], [], []⟩ Try.func60 (by decide) rfl (by simp) (by decide) rfl ?_
  rw [Try.ntmps60]
  simp [go_sem]
  refine CallVC.of (IndexFuncM_c g s p xss hl hg) (by decide) ?_
  simp [go_sem, idxF_any]
theorem badRow_c (x : List Int) (s : Int) (hl : x.length ≤ 9223372036854775807) : Con Try.prog 61 [.sl x.length (avs x), .fptr [.int s]] (.bool (!(decide ((x.length : Int) = s) && numsB x))) := by
  refine con_of_vc Try.mixed ⟨4, [], [], []⟩ Try.func61 (by decide) rfl (by simp) (by decide) rfl ?_
  rw [Try.ntmps61]
  simp [go_sem]
  by_cases h : (x.length : Int) = s
  · simp [go_sem, h]
    refine CallVC.of (areNumbers_c x hl) (by decide) ?_
    simp [go_sem, h]
  · simp [go_sem, h]
theorem length_c (n : Nat) (cs : List AV) (hn : n ≤ 9223372036854775807) : Con Try.prog 59 [.sl n cs] (.int n) := by
  refine con_of_vc Try.mixed ⟨3, [], [], []⟩ Try.func59 (by decide) rfl (by simp) (by decide) rfl ?_
  rw [Try.ntmps59]
  simp [go_sem]
  try omega
def tabB (A : List (List Int)) (B : List Int) : Bool := decide (1 ≤ B.length ∧ B.length ≤ 8 ∧ A.length = B.length) && numsB B && A.all fun r => decide (r.length = B.length) && numsB r
theorem IsTableau_c (A : List (List Int)) (B : List Int) (hA : A.length ≤ 9223372036854775807) (hB : B.length ≤ 9223372036854775807) (hr : ∀ r ∈ A, r.length ≤ 9223372036854775807) :
    Con Try.prog 42 [.agg [.sl A.length (mat A), .sl B.length (avs B)]] (.bool (tabB A B)) := by
  refine con_of_vc Try.mixed ⟨4, [], [], []⟩ Try.func42 (by decide) rfl (by simp) (by decide) rfl ?_
  rw [Try.ntmps42]
  simp [go_sem]
  refine CallVC.of (length_c _ _ hB) (by decide) ?_
  simp [go_sem]
  have cR := inRange_c B.length 1 8
  by_cases h1 : 1 ≤ B.length ∧ B.length ≤ 8
  · have e1 : (decide ((1 : Int) ≤ B.length) && decide ((B.length : Int) ≤ 8)) = true := by simp; omega
    rw [e1] at cR
    refine CallVC.of cR (by decide) ?_
    by_cases h2 : A.length = B.length
    · have h2' : (A.length : Int) = B.length := by omega
      simp [go_sem, h2, h2']
      refine CallVC.of (areNumbers_c B hB) (by decide) ?_
      by_cases h3 : numsB B = true
      · simp [go_sem, h3]
        have cM := ContainsFuncM_c 61 B.length (fun x => !(decide ((x.length : Int) = B.length) && numsB x)) A hA (fun x hx => badRow_c x B.length (hr x hx))
        rw [h2] at cM
        refine CallVC.of cM (by decide) ?_
        simp [go_sem, tabB, h1, h2, h3]
        rw [List.any_eq_not_all_not]
        congr 2
        funext r
        simp [show ((r.length : Int) = B.length) = (r.length = B.length) from propext ⟨fun e => by omega, fun e => by omega⟩]
      · simp at h3
        simp [go_sem, h3, tabB]
    · have h2' : ¬ (A.length : Int) = B.length := by omega
      simp [go_sem, h2, h2', tabB]
  · have e1 : (decide ((1 : Int) ≤ B.length) && decide ((B.length : Int) ≤ 8)) = false := by simp; omega
    rw [e1] at cR
    refine CallVC.of cR (by decide) ?_
    have e3 : tabB A B = false := by
      unfold tabB
      have : decide (1 ≤ B.length ∧ B.length ≤ 8 ∧ A.length = B.length) = false := by simp; omega
      rw [this]; simp
    rw [e3]
    simp [go_sem]
end Go.Proofs.Ytoeikpioonlmfaa


namespace Go.Proofs.Ytoeikpioonlmfaa
open Go.ChangeShapes Go.WideShapes Go.ChangeAt Go.RowKit Go.Abs Go.Deep
set_option linter.unusedSectionVars false
set_option linter.unusedVariables false
section
variable {H : Type} {enc : TypeId × Value → H} {w : World} {sp : Nat → Bool} {held : Bool} {base : Nat}
theorem kids : Kids Try.prog (· < Try.prog.types.size) := kids_rows (by kernel_rfl) (by kernel_rfl)
theorem full : ∀ t e, t < Try.prog.types.size → Try.prog.underlying t = some (.slice e) → 0 < Try.prog.cellsOf e := slices_full_of Try.prog (by kernel_rfl)
theorem flat1 {α β : Type} (g : α → β) : ∀ qs : List α, qs.flatMap (fun a => [g a]) = qs.map g
  | [] => rfl
  | a :: qs => by rw [List.flatMap_cons, flat1 g qs]; rfl
theorem open_vec {n : Nat} {cs : List Value} {x : DataW H × List MemPlace} (h : DataW.trod enc Try.prog w base sp held n 22 cs = some x) :
    ∃ xs : List Int, (∀ z ∈ xs, (Lit.int .i64 z).wf = true) ∧ xs.length ≤ 9223372036854775807 ∧ RepL Try.prog w (fun b => b < w.heap.size) [.sl xs.length (avs xs)] cs [] ∧ cs.length = 1 := by
  obtain ⟨qs, h1, h2, h3, h4⟩ := open_sl (f := fun z : Int => [AV.int z]) (Good := fun z => (Lit.int .i64 z).wf = true) Try.underlying22 (s := 1) (by kernel_rfl) (by decide) (fun _ => rfl)
    (fun n cs y hy => by obtain ⟨z, k1, k2, _⟩ := open_i Try.underlying2 hy; exact ⟨z, k1, k2⟩) h
  exact ⟨qs, h1, h2, by rw [flat1] at h3; exact h3, h4⟩
theorem open_mat {n : Nat} {cs : List Value} {x : DataW H × List MemPlace} (h : DataW.trod enc Try.prog w base sp held n 23 cs = some x) :
    ∃ xs : List (List Int), (∀ r ∈ xs, (∀ z ∈ r, (Lit.int .i64 z).wf = true) ∧ r.length ≤ 9223372036854775807) ∧ xs.length ≤ 9223372036854775807 ∧ RepL Try.prog w (fun b => b < w.heap.size) [.sl xs.length (mat xs)] cs [] ∧ cs.length = 1 := by
  obtain ⟨qs, h1, h2, h3, h4⟩ := open_sl (f := fun r : List Int => [AV.sl r.length (avs r)]) (Good := fun r => (∀ z ∈ r, (Lit.int .i64 z).wf = true) ∧ r.length ≤ 9223372036854775807) Try.underlying23 (s := 1) (by kernel_rfl) (by decide) (fun _ => rfl)
    (fun n cs y hy => by obtain ⟨z, k1, k2, k3, _⟩ := open_vec hy; exact ⟨z, ⟨k1, k2⟩, k3⟩) h
  exact ⟨qs, h1, h2, by rw [flat1] at h3; exact h3, h4⟩
theorem rep_one {F : Nat → Prop} {tm : Nat → Value} {oss : Nat → List Nat} {c : AV} {v : Value} (h : RepL Try.prog w F [c] [v] []) : RepT Try.prog w F tm oss c v [] := .cell _ _ _ (RepL.one h)
end
end Go.Proofs.Ytoeikpioonlmfaa


namespace Go.Proofs.Ytoeikpioonlmfaa
open Go.Abs
set_option linter.unusedSectionVars false
set_option linter.unusedVariables false
set_option linter.unusedSimpArgs false
set_option maxHeartbeats 1000000
def szR (left n : Int) : Int := if left - n < 0 then -1 else left - n
theorem szInt64S_c (n : Nat) (cs : List AV) (left : Int) (hn : n ≤ 9223372036854775807) (h0 : -1 ≤ left) (h1 : left ≤ 9223372036854775807) :
    Con Try.prog 9 [.sl n cs, .int left] (.int (szR left n)) := by
  refine con_of_vc Try.mixed ⟨5, [], [], []⟩ Try.func9 (by decide) rfl (by simp) (by decide) rfl ?_
  rw [Try.ntmps9]
  simp [go_sem]
  unfold szR
  refine ⟨by omega, fun h => ?_, fun h => ?_⟩ <;> simp at h <;> simp [go_sem]
  · omega
  · omega
theorem szR_ge (left n : Int) : -1 ≤ szR left n := by unfold szR; split <;> omega
theorem szR_le {left n : Int} (h : 0 ≤ n) (h1 : -1 ≤ left) : szR left n ≤ left := by unfold szR; split <;> omega
def szRs : Int → List (List Int) → Int
  | left, [] => left
  | left, r :: rs => if szR left r.length < 0 then -1 else szRs (szR left r.length) rs
def szM (left : Int) (A : List (List Int)) : Int := if szR left A.length < 0 then -1 else szRs (szR left A.length) A
theorem szInt64SS_c (A : List (List Int)) (left : Int) (hA : A.length ≤ 9223372036854775807) (hr : ∀ r ∈ A, r.length ≤ 9223372036854775807) (h0 : 0 ≤ left) (h1 : left ≤ 9223372036854775807) :
    Con Try.prog 26 [.sl A.length (mat A), .int left] (.int (szM left A)) := by
  refine con_of_vc Try.mixed ⟨6, [], [], []⟩ Try.func26 (by decide) rfl (by simp) (by decide) rfl ?_
  rw [Try.ntmps26]
  simp [go_sem]
  refine ⟨by omega, fun h => ?_, fun h => ?_⟩ <;> simp at h <;> simp [go_sem]
  · unfold szM szR; simp; omega
  have e1 : szM left A = szRs (left - A.length) A := by unfold szM szR; rw [if_neg (by omega : ¬ left - (A.length : Int) < 0), if_neg (by omega)]
  refine loop_inv (1 :: List.range' 4 30) (fun x : Nat × Int => [(1, .int x.2), (5, .int x.1)]) (fun x => x.1 ≤ A.length ∧ 0 ≤ x.2 ∧ x.2 ≤ left ∧ szRs x.2 (A.drop x.1) = szM left A) (fun x => A.length - x.1) (0, left - A.length) (by simp; omega) (by simp [go_sem]) (by simp [go_sem]) ?_
  rintro ⟨i, l⟩ ⟨hi, hl0, hl1, he⟩
  simp only at hi hl0 hl1 he
  simp [go_sem]
  refine ⟨fun h => ?_, fun h => ?_⟩ <;> simp at h
  · have hx : A[i]?.getD [] ∈ A := by simp [h]
    have hd : A.drop i = A[i]?.getD [] :: A.drop (i + 1) := by rw [List.drop_eq_getElem_cons h]; simp [h]
    simp [go_sem, mat_drop h]
    refine ⟨⟨h, by rintro rfl; simp at h⟩, CallVC.of (szInt64S_c _ _ _ (hr _ hx) (by omega) (by omega)) (by decide) ?_⟩
    simp [go_sem]
    have k1 := szR_ge l (A[i]?.getD []).length
    have k2 := szR_le (left := l) (n := (A[i]?.getD []).length) (by omega) (by omega)
    rw [hd, szRs] at he
    refine ⟨fun h2 => ?_, fun h2 => ?_⟩ <;> simp at h2 <;> simp [go_sem]
    · rw [if_pos h2] at he; exact he
    · rw [if_neg (by omega)] at he
      refine ⟨by omega, i + 1, _, ⟨by omega, h2, by omega, he⟩, by omega, Off_reset _ _ _ (by simp), rfl, by omega⟩
  · simp [go_sem]
    rw [List.drop_eq_nil_of_le h] at he
    exact he
end Go.Proofs.Ytoeikpioonlmfaa


namespace Go.Proofs.Ytoeikpioonlmfaa
open Go.Abs
set_option linter.unusedSectionVars false
set_option linter.unusedVariables false
set_option linter.unusedSimpArgs false
set_option maxHeartbeats 1000000
theorem fill_step {α : Type} (l : List α) (d v : α) (i : Nat) (h : i < l.length) (hv : l[i]? = some v) : (l.take i ++ List.replicate (l.length - i) d).set i v = l.take (i + 1) ++ List.replicate (l.length - (i + 1)) d := by
  obtain ⟨k, hk⟩ : ∃ k, l.length - i = k + 1 := ⟨l.length - i - 1, by omega⟩
  rw [show l.length - (i + 1) = k by omega, hk, List.replicate_succ, List.set_append_right _ _ (by simp; omega), List.take_add_one, hv]
  have : i - (l.take i).length = 0 := by simp; omega
  rw [this]; simp
theorem toInt64S_c (xs : List Int) (hl : xs.length ≤ 1048576) : Con Try.prog 17 [.sl xs.length (avs xs)] (.own 2 xs.length (avs xs)) := by
  refine con_of_vc Try.mixed ⟨5, [], [], []⟩ Try.func17 (by decide) rfl (by simp) (by decide) (by simp [freshOK]) ?_
  rw [Try.ntmps17]
  simp [go_sem]
  refine ⟨by omega, ?_⟩
  refine loop_inv (List.range' 3 30) (fun i : Nat => [(3, .own 2 xs.length (avs (xs.take i ++ List.replicate (xs.length - i) 0))), (4, .int i)]) (fun i => i ≤ xs.length) (fun i => xs.length - i) 0 (by simp) (by simp [go_sem, avs_repl]) (by simp [go_sem]) ?_
  intro i hi
  simp [go_sem]
  refine ⟨fun h => ?_, fun h => ?_⟩ <;> simp at h
  · simp [go_sem, avs_drop h]
    refine ⟨⟨h, by rintro rfl; simp at h⟩, h, by omega, by omega, i + 1, by omega, by omega, Off_reset _ _ _ (by simp), ?_, by omega⟩
    rw [avs_set, avs_inj]
    exact fill_step xs 0 _ i h (by simp [h])
  · simp [go_sem]
    have e : i = xs.length := by omega
    subst e; simp
def omat (A : List (List Int)) : List AV := A.map fun r => .own 2 r.length (avs r)
@[simp] theorem omat_len (A : List (List Int)) : (omat A).length = A.length := by simp [omat]
@[simp] theorem omat_frz (A : List (List Int)) : frzL (omat A) = mat A := by
  induction A with
  | nil => rfl
  | cons r A ih => simp only [omat, mat, List.map_cons, frzL] at ih ⊢; rw [ih]; simp [frz]
@[simp] theorem omat_fresh (A : List (List Int)) : freshL (omat A) = true := by
  induction A with
  | nil => rfl
  | cons r A ih => simp only [omat, List.map_cons, freshL] at ih ⊢; rw [ih]; simp [freshOK]
theorem toInt64SS_c (A : List (List Int)) (hl : A.length ≤ 1048576) (hr : ∀ r ∈ A, r.length ≤ 1048576) : Con Try.prog 36 [.sl A.length (mat A)] (.own 22 A.length (omat A)) := by
  refine con_of_vc Try.mixed ⟨5, [], [], []⟩ Try.func36 (by decide) rfl (by simp) (by decide) (by simp [freshOK]) ?_
  rw [Try.ntmps36]
  simp [go_sem]
  refine ⟨by omega, ?_⟩
  refine loop_inv (List.range' 3 30) (fun i : Nat => [(3, .own 22 A.length (omat (A.take i) ++ List.replicate (A.length - i) (.val (.slice none 0 0)))), (4, .int i)]) (fun i => i ≤ A.length) (fun i => A.length - i) 0 (by simp) (by simp [go_sem, omat]) (by simp [go_sem]) ?_
  intro i hi
  simp [go_sem]
  refine ⟨fun h => ?_, fun h => ?_⟩ <;> simp at h
  · have hx : A[i]?.getD [] ∈ A := by simp [h]
    simp [go_sem, mat_drop h]
    refine ⟨⟨h, by rintro rfl; simp at h⟩, CallVC.of (toInt64S_c _ (hr _ hx)) (by decide) ?_⟩
    simp [go_sem]
    refine ⟨h, by omega, by omega, i + 1, by omega, by omega, Off_reset _ _ _ (by simp), ?_, by omega⟩
    have e1 : ∀ k, omat (A.take k) = (omat A).take k := fun k => by simp [omat, List.map_take]
    have := fill_step (omat A) (.val (.slice none 0 0)) (.own 2 (A[i]?.getD []).length (avs (A[i]?.getD []))) i (by simpa using h) (by simp [omat, h])
    rw [omat_len] at this
    rw [e1, e1]
    exact this
  · simp [go_sem]
    have e : i = A.length := by omega
    subst e; simp
theorem toTableau_c (A : List (List Int)) (B : List Int) (hl : A.length ≤ 1048576) (hr : ∀ r ∈ A, r.length ≤ 1048576) (hB : B.length ≤ 1048576) :
    Con Try.prog 18 [.agg [.sl A.length (mat A), .sl B.length (avs B)]] (.agg [.own 22 A.length (omat A), .own 2 B.length (avs B)]) := by
  refine con_of_vc Try.mixed ⟨4, [], [], []⟩ Try.func18 (by decide) rfl (by simp) (by decide) (by simp [freshOK, freshL]) ?_
  rw [Try.ntmps18]
  simp [go_sem]
  refine CallVC.of (toInt64SS_c A hl hr) (by decide) ?_
  simp [go_sem]
  refine CallVC.of (toInt64S_c B hB) (by decide) ?_
  simp [go_sem]
end Go.Proofs.Ytoeikpioonlmfaa


namespace Go.Proofs.Ytoeikpioonlmfaa
open Go.Abs
set_option linter.unusedSectionVars false
set_option linter.unusedVariables false
set_option linter.unusedSimpArgs false
set_option maxHeartbeats 1000000
theorem eqInt64SS_c (A C : List (List Int)) (hA : A.length ≤ 9223372036854775807) (hr : ∀ r ∈ A, r.length ≤ 9223372036854775807) :
    Con Try.prog 45 [.sl A.length (mat A), .sl C.length (mat C)] (.bool (decide (A = C))) := by
  refine con_of_vc Try.mixed ⟨6, [], [], []⟩ Try.func45 (by decide) rfl (by simp) (by decide) rfl ?_
  rw [Try.ntmps45]
  simp [go_sem]
  refine ⟨fun h => ?_, fun h => ?_⟩ <;> simp at h <;> simp [go_sem]
  · rintro rfl; omega
  have hl : A.length = C.length := by omega
  refine loop_inv (List.range' 4 30) (fun i : Nat => [(5, .int i)]) (fun i => i ≤ A.length ∧ A.take i = C.take i) (fun i => A.length - i) 0 (by simp) (by simp [go_sem]) (by simp [go_sem]) ?_
  intro i hi
  simp [go_sem]
  refine ⟨fun h => ?_, fun h => ?_⟩ <;> simp at h
  · have hx : A[i]?.getD [] ∈ A := by simp [h]
    simp [go_sem, mat_drop h, mat_drop (show i < C.length by omega)]
    refine ⟨by kernel_rfl, ⟨h, by rintro rfl; simp at h⟩, ⟨by omega, fun e => by rw [e] at hl; rw [hl] at h; simp at h⟩, ?_⟩
    refine CallD.of (eqInt64S_c _ _ (hr _ hx)) (by simp [roots]) (by decide) ?_
    simp [go_sem]
    refine ⟨by kernel_rfl, ?_⟩
    refine ⟨fun h2 => ?_, fun h2 => ?_⟩ <;> simp at h2 <;> simp [go_sem]
    · rintro rfl; exact h2 rfl
    · refine ⟨by omega, i + 1, ⟨by omega, ?_⟩, by omega, Off_reset _ _ _ (by simp), by omega⟩
      rw [List.take_add_one, List.take_add_one, hi.2]
      rw [List.getElem?_eq_getElem h, List.getElem?_eq_getElem (show i < C.length by omega)] at h2 ⊢
      simp only [Option.getD_some] at h2
      rw [h2]
  · simp [go_sem]
    have e : i = A.length := by omega
    subst e
    have := hi.2
    rw [List.take_length, hl, List.take_length] at this
    exact this
theorem eqTableau_c (A C : List (List Int)) (B D : List Int) (hA : A.length ≤ 9223372036854775807) (hr : ∀ r ∈ A, r.length ≤ 9223372036854775807) (hB : B.length ≤ 9223372036854775807) :
    Con Try.prog 24 [.agg [.sl A.length (mat A), .sl B.length (avs B)], .agg [.sl C.length (mat C), .sl D.length (avs D)]] (.bool (decide (A = C) && decide (B = D))) := by
  refine con_of_vc Try.mixed ⟨6, [], [], []⟩ Try.func24 (by decide) rfl (by simp) (by decide) rfl ?_
  rw [Try.ntmps24]
  simp [go_sem]
  refine CallVC.of (eqInt64SS_c A C hA hr) (by decide) ?_
  by_cases h1 : A = C
  · simp [go_sem, h1]
    refine CallVC.of (eqInt64S_c B D hB) (by decide) ?_
    by_cases h2 : B = D <;> simp [go_sem, h2]
  · simp [go_sem, h1]
def sumL : List (List Int) → Nat
  | [] => 0
  | r :: rs => r.length + sumL rs
theorem sumL_app (A C : List (List Int)) : sumL (A ++ C) = sumL A + sumL C := by
  induction A with
  | nil => simp [sumL]
  | cons r A ih => simp [sumL, ih]; omega
theorem sumL_take {A : List (List Int)} {i : Nat} (h : i < A.length) : sumL (A.take (i + 1)) = sumL (A.take i) + (A[i]?.getD []).length := by
  rw [List.take_add_one, sumL_app]; simp [h, sumL]
theorem sumL_le (A : List (List Int)) (i : Nat) : sumL (A.take i) ≤ sumL A := by
  have := congrArg sumL (List.take_append_drop i A)
  rw [sumL_app] at this; omega
end Go.Proofs.Ytoeikpioonlmfaa


namespace Go.Proofs.Ytoeikpioonlmfaa
open Go.Abs
set_option linter.unusedSectionVars false
set_option linter.unusedVariables false
set_option linter.unusedSimpArgs false
set_option maxHeartbeats 1000000
def pw (a k : Int) : Int := a ^ k.toNat % 10007
def isN (a : Int) : Prop := 0 ≤ a ∧ a < 10007
end Go.Proofs.Ytoeikpioonlmfaa


namespace Go.Proofs.Ytoeikpioonlmfaa
open Go.Abs
set_option linter.unusedSectionVars false
set_option linter.unusedVariables false
set_option linter.unusedSimpArgs false
set_option maxHeartbeats 1000000
end Go.Proofs.Ytoeikpioonlmfaa


namespace Go.Proofs.Ytoeikpioonlmfaa
open Go.Abs
set_option linter.unusedSectionVars false
set_option linter.unusedVariables false
set_option linter.unusedSimpArgs false
set_option maxHeartbeats 1000000
def Ns (xs : List Int) : Prop := ∀ x ∈ xs, isN x
theorem Ns.take {xs : List Int} (h : Ns xs) (k : Nat) : Ns (xs.take k) := fun x hx => h x (List.mem_of_mem_take hx)
theorem Ns.snoc {xs : List Int} (h : Ns xs) {x : Int} (hx : isN x) : Ns (xs ++ [x]) := fun y hy => by
  rcases List.mem_append.1 hy with hy | hy
  · exact h y hy
  · simp at hy; subst hy; exact hx
theorem Ns.nil : Ns [] := by intro x hx; simp at hx
def Mat (n : Nat) (A : List (List Int)) : Prop := ∀ r ∈ A, r.length = n ∧ Ns r
end Go.Proofs.Ytoeikpioonlmfaa


namespace Go.Proofs.Ytoeikpioonlmfaa
open Go.Abs
set_option linter.unusedSectionVars false
set_option linter.unusedVariables false
set_option linter.unusedSimpArgs false
set_option maxHeartbeats 1000000
end Go.Proofs.Ytoeikpioonlmfaa


namespace Go.Proofs.Ytoeikpioonlmfaa
open Go.Abs
set_option linter.unusedSectionVars false
set_option linter.unusedVariables false
set_option linter.unusedSimpArgs false
set_option maxHeartbeats 1000000
theorem specIsNumber_c (a : Int) : Con Try.prog 49 [.int a] (.bool (decide (0 ≤ a ∧ a ≤ 10006))) := by
  refine con_of_vc Try.mixed ⟨3, [], [], []⟩ Try.func49 (by decide) rfl (by simp) (by decide) (by simp [freshOK, freshL, go_sem]) ?_
  rw [Try.ntmps49]
  simp [go_sem]
  refine CallVC.of (l01In_c _ _ _) (by decide) ?_
  simp [go_sem]
theorem numsB_bad {xs : List Int} {i : Nat} (h : i < xs.length) (hb : ¬ (0 ≤ xs[i]?.getD 0 ∧ xs[i]?.getD 0 ≤ 10006)) : numsB xs = false := by
  rw [List.getElem?_eq_getElem h] at hb
  simp only [Option.getD_some] at hb
  unfold numsB
  rw [List.all_eq_false]
  exact ⟨xs[i], List.getElem_mem h, by simpa using hb⟩
theorem numsB_ok {xs : List Int} (h : ∀ x ∈ xs, 0 ≤ x ∧ x ≤ 10006) : numsB xs = true := by
  unfold numsB
  rw [List.all_eq_true]
  intro x hx
  simpa using h x hx
theorem take_all {α : Type} {p : α → Prop} {xs : List α} {i : Nat} (h : i < xs.length) (h1 : ∀ x ∈ xs.take i, p x) (h2 : p xs[i]) : ∀ x ∈ xs.take (i + 1), p x := by
  intro x hx
  rw [List.take_add_one, List.getElem?_eq_getElem h, Option.toList_some, List.mem_append, List.mem_singleton] at hx
  rcases hx with hx | rfl
  · exact h1 x hx
  · exact h2
theorem l01Numbers_c (xs : List Int) (hl : xs.length ≤ 9223372036854775807) : Con Try.prog 32 [.sl xs.length (avs xs)] (.bool (numsB xs)) := by
  refine con_of_vc Try.mixed ⟨4, [], [], []⟩ Try.func32 (by decide) rfl (by simp) (by decide) (by simp [freshOK, freshL, go_sem]) ?_
  rw [Try.ntmps32]
  simp [go_sem]
  refine loop_inv (List.range' 2 14) (fun i : Nat => [(3, .int i)]) (fun i => i ≤ xs.length ∧ ∀ x ∈ xs.take i, 0 ≤ x ∧ x ≤ 10006) (fun i => xs.length - i) 0 (by simp) (by simp [go_sem]) (by simp [go_sem]) ?_
  rintro i ⟨hi, hp⟩
  simp [go_sem]
  refine ⟨fun h => ?_, fun h => ?_⟩ <;> simp at h
  · simp [go_sem, avs_drop h]
    refine ⟨⟨h, by rintro rfl; simp at h⟩, ?_⟩
    refine CallVC.of (specIsNumber_c _) (by decide) ?_
    by_cases hb : 0 ≤ xs[i]?.getD 0 ∧ xs[i]?.getD 0 ≤ 10006
    · simp [go_sem, hb]
      refine ⟨by omega, i + 1, ⟨by omega, ?_⟩, by omega, Off_reset _ _ _ (by simp), by omega⟩
      rw [List.getElem?_eq_getElem h, Option.getD_some] at hb
      exact take_all h hp hb
    · have e : decide (0 ≤ xs[i]?.getD 0 ∧ xs[i]?.getD 0 ≤ 10006) = false := by simpa using hb
      rw [e]
      simp [go_sem]
      exact numsB_bad h hb
  · simp [go_sem]
    have e : i = xs.length := by omega
    subst e
    rw [List.take_length] at hp
    exact numsB_ok hp
theorem l09Is_c (A : List (List Int)) (B : List Int) (hA : A.length ≤ 9223372036854775807) (hB : B.length ≤ 9223372036854775807) (hr : ∀ r ∈ A, r.length ≤ 9223372036854775807) :
    Con Try.prog 14 [.agg [.sl A.length (mat A), .sl B.length (avs B)]] (.bool (tabB A B)) := by
  have bad : ¬ (1 ≤ B.length ∧ B.length ≤ 8 ∧ A.length = B.length) → tabB A B = false := fun h => by
    unfold tabB
    rw [decide_eq_false h]; rfl
  refine con_of_vc Try.mixed ⟨5, [], [], []⟩ Try.func14 (by decide) rfl (by simp) (by decide) (by simp [freshOK, freshL, go_sem]) ?_
  rw [Try.ntmps14]
  simp [go_sem]
  by_cases h1 : 1 ≤ B.length
  · by_cases h2 : B.length ≤ 8
    · by_cases h3 : A.length = B.length
      · have i1 : ¬ (B.length : Int) < 1 := by omega
        have i2 : ¬ 8 < (B.length : Int) := by omega
        have i3 : (A.length : Int) = B.length := by omega
        simp [go_sem, i1, i2, i3]
        refine CallVC.of (l01Numbers_c B hB) (by decide) ?_
        cases hB2 : numsB B with
        | false =>
          simp [go_sem]
          unfold tabB; rw [hB2]; simp
        | true =>
          simp [go_sem]
          refine loop_inv (2 :: 4 :: List.range' 27 22) (fun i : Nat => [(4, .int i)]) (fun i => i ≤ B.length ∧ ∀ r ∈ A.take i, r.length = B.length ∧ numsB r = true) (fun i => B.length - i) 0 (by simp) (by simp [go_sem]) (by simp [go_sem]) ?_
          rintro i ⟨hi, hp⟩
          have fine : tabB A B = A.all (fun r => decide (r.length = B.length) && numsB r) := by
            unfold tabB; rw [hB2, decide_eq_true ⟨h1, h2, h3⟩]; simp
          simp [go_sem]
          refine ⟨fun h => ?_, fun h => ?_⟩ <;> simp at h
          · have hA2 : i < A.length := by omega
            have wrong : ¬ ((A[i]?.getD []).length = B.length ∧ numsB (A[i]?.getD []) = true) → tabB A B = false := fun hb => by
              rw [List.getElem?_eq_getElem hA2, Option.getD_some] at hb
              rw [fine, List.all_eq_false]
              exact ⟨A[i], List.getElem_mem hA2, by simpa using hb⟩
            simp [go_sem, mat_drop hA2]
            refine ⟨⟨hA2, by rintro rfl; simp at hA2⟩, ?_⟩
            by_cases g1 : (A[i]?.getD []).length = B.length
            · have g1' : ((A[i]?.getD []).length : Int) = B.length := by omega
              simp [go_sem, g1', mat_drop hA2]
              refine ⟨⟨hA2, by rintro rfl; simp at hA2⟩, ?_⟩
              refine CallVC.of (l01Numbers_c _ (by omega)) (by decide) ?_
              cases g2 : numsB (A[i]?.getD []) with
              | false =>
                simp [go_sem]
                exact wrong (by rw [g2]; simp)
              | true =>
                simp [go_sem]
                refine ⟨by omega, i + 1, ⟨by omega, ?_⟩, by omega, Off_reset _ _ _ (by simp), by omega⟩
                rw [List.getElem?_eq_getElem hA2, Option.getD_some] at g1 g2
                exact take_all hA2 hp ⟨g1, g2⟩
            · have g1' : ¬ ((A[i]?.getD []).length : Int) = B.length := by omega
              simp [go_sem, g1']
              exact wrong (fun h => g1 h.1)
          · simp [go_sem]
            have e : i = A.length := by omega
            subst e
            rw [List.take_length] at hp
            rw [fine, List.all_eq_true]
            intro r hr
            simpa using hp r hr
      · have i1 : ¬ (B.length : Int) < 1 := by omega
        have i2 : ¬ 8 < (B.length : Int) := by omega
        have i3 : ¬ (A.length : Int) = B.length := by omega
        simp [go_sem, i1, i2, i3, bad (fun h => h3 h.2.2)]
    · have i1 : ¬ (B.length : Int) < 1 := by omega
      have i2 : 8 < (B.length : Int) := by omega
      simp [go_sem, i1, i2, bad (fun h => h2 h.2.1)]
  · have i1 : (B.length : Int) < 1 := by omega
    simp [go_sem, i1, bad (fun h => h1 h.1)]
structure Tab (A : List (List Int)) (B : List Int) : Prop where
  pos : 1 ≤ B.length
  le : B.length ≤ 8
  len : A.length = B.length
  b : Ns B
  a : Mat B.length A
end Go.Proofs.Ytoeikpioonlmfaa


namespace Go.Proofs.Ytoeikpioonlmfaa
open Go.Abs
set_option linter.unusedSectionVars false
set_option linter.unusedVariables false
set_option linter.unusedSimpArgs false
set_option maxHeartbeats 1000000
abbrev Mon := Int × List Int
def mons (p : List Mon) : List AV := p.flatMap fun m => [.int m.1, .sl m.2.length (avs m.2)]
def omons (p : List Mon) : List AV := p.flatMap fun m => [.int m.1, .own 2 m.2.length (avs m.2)]
def prt (f : List (List Mon)) : List AV := f.map fun p => .sl p.length (mons p)
def oprt (f : List (List Mon)) : List AV := f.map fun p => .own 61 p.length (omons p)
theorem mons_cons (m : Mon) (p : List Mon) : mons (m :: p) = .int m.1 :: .sl m.2.length (avs m.2) :: mons p := rfl
theorem omons_cons (m : Mon) (p : List Mon) : omons (m :: p) = .int m.1 :: .own 2 m.2.length (avs m.2) :: omons p := rfl
@[simp] theorem mons_nil : mons [] = [] := rfl
@[simp] theorem omons_nil : omons [] = [] := rfl
@[simp] theorem mons_len : ∀ p : List Mon, (mons p).length = p.length * 2
  | [] => rfl
  | m :: p => by rw [mons_cons]; simp [mons_len p]; omega
@[simp] theorem omons_len : ∀ p : List Mon, (omons p).length = p.length * 2
  | [] => rfl
  | m :: p => by rw [omons_cons]; simp [omons_len p]; omega
@[simp] theorem mons_ne {p : List Mon} : (mons p = []) = (p = []) := by cases p <;> simp [mons_cons]
@[simp] theorem prt_len (f : List (List Mon)) : (prt f).length = f.length := by simp [prt]
@[simp] theorem oprt_len (f : List (List Mon)) : (oprt f).length = f.length := by simp [oprt]
@[simp] theorem prt_ne {f : List (List Mon)} : (prt f = []) = (f = []) := by cases f <;> simp [prt]
@[simp] theorem omons_frz : ∀ p : List Mon, frzL (omons p) = mons p
  | [] => rfl
  | m :: p => by rw [omons_cons, mons_cons]; simp [frzL, frz, omons_frz p]
@[simp] theorem mons_frz : ∀ p : List Mon, frzL (mons p) = mons p
  | [] => rfl
  | m :: p => by rw [mons_cons]; simp [frzL, frz, mons_frz p]
@[simp] theorem omons_fresh : ∀ p : List Mon, freshL (omons p) = true
  | [] => rfl
  | m :: p => by rw [omons_cons]; simp [freshL, freshOK, omons_fresh p]
@[simp] theorem oprt_frz : ∀ f : List (List Mon), frzL (oprt f) = prt f
  | [] => rfl
  | p :: f => by have := oprt_frz f; simp only [oprt, prt, List.map_cons, frzL] at this ⊢; rw [this]; simp [frz]
@[simp] theorem oprt_fresh : ∀ f : List (List Mon), freshL (oprt f) = true
  | [] => rfl
  | p :: f => by have := oprt_fresh f; simp only [oprt, List.map_cons, freshL] at this ⊢; rw [this]; simp [freshOK]
theorem mons_drop : ∀ {p : List Mon} {k : Nat}, k < p.length → (mons p).drop (k * 2) = .val (.int .i64 (p[k]?.getD (0, [])).1) :: .sl (p[k]?.getD (0, [])).2.length (avs (p[k]?.getD (0, [])).2) :: mons (p.drop (k + 1))
  | m :: p, 0, _ => rfl
  | m :: p, k + 1, h => by
    have := mons_drop (p := p) (k := k) (by simpa using h)
    rw [mons_cons, show (k + 1) * 2 = k * 2 + 1 + 1 by omega]
    simpa using this
theorem prt_drop {f : List (List Mon)} {k : Nat} (h : k < f.length) : (prt f).drop k = .sl (f[k]?.getD []).length (mons (f[k]?.getD [])) :: prt (f.drop (k + 1)) := by
  rw [prt, ← List.map_drop, List.drop_eq_getElem_cons h, List.map_cons]; simp [h, prt]
def szG {α : Type} (g : Int → α → Int) : Int → List α → Int
  | left, [] => left
  | left, a :: l => if g left a < 0 then -1 else szG g (g left a) l
def szA {α : Type} (g : Int → α → Int) (left : Int) (l : List α) : Int := if left - l.length < 0 then -1 else szG g (left - l.length) l
def sumC {α : Type} (c : α → Nat) : List α → Nat
  | [] => 0
  | a :: l => c a + sumC c l
structure SzOk {α : Type} (g : Int → α → Int) (c : α → Nat) : Prop where
  lo : ∀ l a, -1 ≤ g l a
  hi : ∀ l a, 0 ≤ l → g l a ≤ l
  ok : ∀ l a, 0 ≤ l → 0 ≤ g l a → (c a : Int) ≤ l - g l a
theorem szG_lo {α : Type} {g : Int → α → Int} {c : α → Nat} (h : SzOk g c) : ∀ (l : List α) (left : Int), 0 ≤ left → -1 ≤ szG g left l ∧ szG g left l ≤ left ∧ (0 ≤ szG g left l → (sumC c l : Int) ≤ left - szG g left l)
  | [], left, h0 => by simp [szG, sumC]; omega
  | a :: l, left, h0 => by
    rw [szG]
    have h1 := h.hi left a h0
    split
    · exact ⟨by omega, by omega, by omega⟩
    · rename_i h2
      have := szG_lo h l (g left a) (by omega)
      refine ⟨this.1, by omega, fun h3 => ?_⟩
      have h4 := this.2.2 h3
      have h5 := h.ok left a h0 (by omega)
      rw [sumC]; omega
theorem szA_ok {α : Type} {g : Int → α → Int} {c : α → Nat} (h : SzOk g c) : SzOk (szA g) (fun l => l.length + sumC c l) := by
  refine ⟨fun l a => ?_, fun l a h0 => ?_, fun l a h0 h1 => ?_⟩ <;> unfold szA at * <;> split
  · omega
  · exact (szG_lo h a _ (by omega)).1
  · omega
  · have := (szG_lo h a (l - a.length) (by omega)).2.1; omega
  · rename_i h2; rw [if_pos h2] at h1; omega
  · rename_i h2
    rw [if_neg h2] at h1
    have := (szG_lo h a (l - a.length) (by omega)).2.2 h1
    push_cast; omega
theorem szR_ok : SzOk (fun l (m : Mon) => szR l m.2.length) (fun m => m.2.length) := by
  refine ⟨fun l a => szR_ge _ _, fun l a h0 => szR_le (by omega) (by omega), fun l a h0 h1 => ?_⟩
  unfold szR at h1 ⊢
  split at h1
  · omega
  · rename_i h2; rw [if_neg h2]; omega
theorem sumC_mem {α : Type} (c : α → Nat) : ∀ {l : List α} {a : α}, a ∈ l → c a ≤ sumC c l
  | b :: l, a, h => by
    rw [sumC]
    rcases List.mem_cons.1 h with rfl | h
    · omega
    · have := sumC_mem c h; omega
def cM (m : Mon) : Nat := m.2.length
def cP (p : List Mon) : Nat := p.length + sumC cM p
def cF (f : List (List Mon)) : Nat := f.length + sumC cP f
def szMn (l : Int) (m : Mon) : Int := szR l m.2.length
def szP : Int → List Mon → Int := szA szMn
def szF : Int → List (List Mon) → Int := szA szP
theorem szMn_ok : SzOk szMn cM := szR_ok
theorem szP_ok : SzOk szP cP := szA_ok szMn_ok
theorem szF_ok : SzOk szF cF := szA_ok szP_ok
theorem szMonomial_c (m : Mon) (left : Int) (hn : m.2.length ≤ 9223372036854775807) (h0 : 0 ≤ left) (h1 : left ≤ 9223372036854775807) :
    Con Try.prog 65 [.agg [.int m.1, .sl m.2.length (avs m.2)], .int left] (.int (szMn left m)) := by
  refine con_of_vc Try.mixed ⟨5, [], [], []⟩ Try.func65 (by decide) rfl (by simp) (by decide) (by simp [freshOK, freshL, go_sem]) ?_
  rw [Try.ntmps65]
  simp [go_sem]
  refine CallVC.of (szInt64S_c _ _ left hn (by omega) h1) (by decide) ?_
  simp [go_sem]
  have := szR_ge left m.2.length
  unfold szMn
  by_cases h2 : szR left m.2.length < 0
  · simp [go_sem, h2]
    omega
  · simp [go_sem, h2]
theorem szMonomialS_c (p : List Mon) (left : Int) (hn : p.length ≤ 9223372036854775807) (hr : ∀ m ∈ p, m.2.length ≤ 9223372036854775807) (h0 : 0 ≤ left) (h1 : left ≤ 9223372036854775807) :
    Con Try.prog 47 [.sl p.length (mons p), .int left] (.int (szP left p)) := by
  refine con_of_vc Try.mixed ⟨6, [], [], []⟩ Try.func47 (by decide) rfl (by simp) (by decide) (by simp [freshOK, freshL, go_sem]) ?_
  rw [Try.ntmps47]
  simp [go_sem]
  refine ⟨by omega, fun h => ?_, fun h => ?_⟩ <;> simp at h <;> simp [go_sem]
  · unfold szP szA; rw [if_pos (by omega)]
  have e1 : szP left p = szG szMn (left - p.length) p := by unfold szP szA; rw [if_neg (by omega)]
  refine loop_inv (1 :: List.range' 4 30) (fun x : Nat × Int => [(1, .int x.2), (5, .int x.1)]) (fun x => x.1 ≤ p.length ∧ 0 ≤ x.2 ∧ x.2 ≤ left ∧ szG szMn x.2 (p.drop x.1) = szP left p) (fun x => p.length - x.1) (0, left - p.length) (by simp; omega) (by simp [go_sem]) (by simp [go_sem]) ?_
  rintro ⟨i, l⟩ ⟨hi, hl0, hl1, he⟩
  simp only at hi hl0 hl1 he
  simp [go_sem]
  refine ⟨fun h => ?_, fun h => ?_⟩ <;> simp at h
  · have hx : p[i]?.getD (0, []) ∈ p := by simp [h]
    have hd : p.drop i = p[i]?.getD (0, []) :: p.drop (i + 1) := by rw [List.drop_eq_getElem_cons h]; simp [h]
    have hm := hr _ hx
    simp [go_sem, mons_drop h]
    refine ⟨⟨h, by rintro rfl; simp at h⟩, ?_⟩
    try refine ⟨by omega, ?_⟩
    refine CallVC.of (szMonomial_c _ _ hm hl0 (by omega)) (by decide) ?_
    simp [go_sem]
    have k1 := szMn_ok.lo l (p[i]?.getD (0, []))
    have k2 := szMn_ok.hi l (p[i]?.getD (0, [])) hl0
    rw [hd, szG] at he
    refine ⟨fun h2 => ?_, fun h2 => ?_⟩ <;> simp at h2 <;> simp [go_sem]
    · rw [if_pos h2] at he; exact he
    · rw [if_neg (by omega)] at he
      refine ⟨by omega, i + 1, _, ⟨by omega, h2, by omega, he⟩, by omega, Off_reset _ _ _ (by simp), rfl, by omega⟩
  · simp [go_sem]
    rw [List.drop_eq_nil_of_le h] at he
    exact he
theorem szMonomialSS_c (p : List (List Mon)) (left : Int) (hn : p.length ≤ 9223372036854775807) (hr : ∀ m ∈ p, m.length ≤ 9223372036854775807 ∧ ∀ q ∈ m, q.2.length ≤ 9223372036854775807) (h0 : 0 ≤ left) (h1 : left ≤ 9223372036854775807) :
    Con Try.prog 27 [.sl p.length (prt p), .int left] (.int (szF left p)) := by
  refine con_of_vc Try.mixed ⟨6, [], [], []⟩ Try.func27 (by decide) rfl (by simp) (by decide) (by simp [freshOK, freshL, go_sem]) ?_
  rw [Try.ntmps27]
  simp [go_sem]
  refine ⟨by omega, fun h => ?_, fun h => ?_⟩ <;> simp at h <;> simp [go_sem]
  · unfold szF szA; rw [if_pos (by omega)]
  have e1 : szF left p = szG szP (left - p.length) p := by unfold szF szA; rw [if_neg (by omega)]
  refine loop_inv (1 :: List.range' 4 30) (fun x : Nat × Int => [(1, .int x.2), (5, .int x.1)]) (fun x => x.1 ≤ p.length ∧ 0 ≤ x.2 ∧ x.2 ≤ left ∧ szG szP x.2 (p.drop x.1) = szF left p) (fun x => p.length - x.1) (0, left - p.length) (by simp; omega) (by simp [go_sem]) (by simp [go_sem]) ?_
  rintro ⟨i, l⟩ ⟨hi, hl0, hl1, he⟩
  simp only at hi hl0 hl1 he
  simp [go_sem]
  refine ⟨fun h => ?_, fun h => ?_⟩ <;> simp at h
  · have hx : p[i]?.getD [] ∈ p := by simp [h]
    have hd : p.drop i = p[i]?.getD [] :: p.drop (i + 1) := by rw [List.drop_eq_getElem_cons h]; simp [h]
    have hm := hr _ hx
    simp [go_sem, prt_drop h]
    refine ⟨⟨h, by rintro rfl; simp at h⟩, ?_⟩
    refine CallVC.of (szMonomialS_c _ _ hm.1 hm.2 hl0 (by omega)) (by decide) ?_
    simp [go_sem]
    have k1 := szP_ok.lo l (p[i]?.getD [])
    have k2 := szP_ok.hi l (p[i]?.getD []) hl0
    rw [hd, szG] at he
    refine ⟨fun h2 => ?_, fun h2 => ?_⟩ <;> simp at h2 <;> simp [go_sem]
    · rw [if_pos h2] at he; exact he
    · rw [if_neg (by omega)] at he
      refine ⟨by omega, i + 1, _, ⟨by omega, h2, by omega, he⟩, by omega, Off_reset _ _ _ (by simp), rfl, by omega⟩
  · simp [go_sem]
    rw [List.drop_eq_nil_of_le h] at he
    exact he
def Fit (f : List (List Mon)) : Prop := f.length ≤ 9223372036854775807 ∧ ∀ p ∈ f, p.length ≤ 9223372036854775807 ∧ ∀ q ∈ p, q.2.length ≤ 9223372036854775807
theorem szField_c (z : Int) (f : List (List Mon)) (left : Int) (hf : Fit f) (h0 : 0 ≤ left) (h1 : left ≤ 9223372036854775807) :
    Con Try.prog 11 [.agg [.int z, .sl f.length (prt f)], .int left] (.int (szF left f)) := by
  refine con_of_vc Try.mixed ⟨5, [], [], []⟩ Try.func11 (by decide) rfl (by simp) (by decide) (by simp [freshOK, freshL, go_sem]) ?_
  rw [Try.ntmps11]
  simp [go_sem]
  refine CallVC.of (szMonomialSS_c f left hf.1 hf.2 h0 h1) (by decide) ?_
  simp [go_sem]
  have := szF_ok.lo left f
  by_cases h2 : szF left f < 0
  · simp [go_sem, h2]
    omega
  · simp [go_sem, h2]
end Go.Proofs.Ytoeikpioonlmfaa


namespace Go.Proofs.Ytoeikpioonlmfaa
open Go.ChangeShapes Go.WideShapes Go.ChangeAt Go.RowKit Go.Abs Go.Deep
set_option linter.unusedSectionVars false
set_option linter.unusedVariables false
section
variable {H : Type} {enc : TypeId × Value → H} {w : World} {sp : Nat → Bool} {held : Bool} {base : Nat}
set_option maxRecDepth 100000 in
theorem open_mons {n : Nat} {cs : List Value} {x : DataW H × List MemPlace} (h : DataW.trod enc Try.prog w base sp held n 68 cs = some x) :
    ∃ p : List Mon, (∀ m ∈ p, m.2.length ≤ 9223372036854775807) ∧ p.length ≤ 9223372036854775807 ∧ RepL Try.prog w (fun b => b < w.heap.size) [.sl p.length (mons p)] cs [] ∧ cs.length = 1 :=
  open_sl (f := fun m : Mon => [AV.int m.1, .sl m.2.length (avs m.2)]) (Good := fun m => m.2.length ≤ 9223372036854775807) Try.underlying68 (s := 2) (by kernel_rfl) (by decide) (fun _ => rfl)
    (fun n cs y hy => by
      obtain ⟨c0, c1, y0, y1, m, rfl, k0, k1⟩ := open_st2 Try.underlying81 (by kernel_rfl) (by kernel_rfl) hy
      obtain ⟨z, _, a1, _⟩ := open_i Try.underlying2 (F := fun b => b < w.heap.size) k0
      obtain ⟨xs, _, b1, b2, _⟩ := open_vec k1
      exact ⟨(z, xs), b1, RepL.two a1 b2⟩) h
set_option maxRecDepth 100000 in
theorem open_prt {n : Nat} {cs : List Value} {x : DataW H × List MemPlace} (h : DataW.trod enc Try.prog w base sp held n 26 cs = some x) :
    ∃ f : List (List Mon), Fit f ∧ RepL Try.prog w (fun b => b < w.heap.size) [.sl f.length (prt f)] cs [] ∧ cs.length = 1 := by
  obtain ⟨qs, h1, h2, h3, h4⟩ := open_sl (f := fun p : List Mon => [AV.sl p.length (mons p)]) (Good := fun p => p.length ≤ 9223372036854775807 ∧ ∀ q ∈ p, q.2.length ≤ 9223372036854775807) Try.underlying26 (s := 1) (by kernel_rfl) (by decide) (fun _ => rfl)
    (fun n cs y hy => by
      obtain ⟨p, a1, a2, a3, _⟩ := open_mons hy
      exact ⟨p, ⟨a2, a1⟩, a3⟩) h
  exact ⟨qs, ⟨h2, h1⟩, by rw [flat1] at h3; exact h3, h4⟩
end
end Go.Proofs.Ytoeikpioonlmfaa


namespace Go.Proofs.Ytoeikpioonlmfaa
open Go.Abs
set_option linter.unusedSectionVars false
set_option linter.unusedVariables false
set_option linter.unusedSimpArgs false
set_option maxHeartbeats 1000000
theorem toMonomial_c (m : Mon) (hl : m.2.length ≤ 1048576) :
    Con Try.prog 66 [.agg [.int m.1, .sl m.2.length (avs m.2)]] (.agg [.int m.1, .own 2 m.2.length (avs m.2)]) := by
  refine con_of_vc Try.mixed ⟨4, [], [], []⟩ Try.func66 (by decide) rfl (by simp) (by decide) (by simp [freshOK, freshL, go_sem]) ?_
  rw [Try.ntmps66]
  simp [go_sem]
  refine CallVC.of (toInt64S_c m.2 hl) (by decide) ?_
  simp [go_sem]
def zer (k : Nat) : List AV := (List.replicate k [AV.val (.int .i64 0), AV.val (.slice none 0 0)]).flatten
@[simp] theorem zer_len (k : Nat) : (zer k).length = k * 2 := by
  induction k with
  | zero => rfl
  | succ k ih => unfold zer at ih ⊢; rw [List.replicate_succ, List.flatten_cons]; simp [ih]; omega
theorem zer_succ (k : Nat) : zer (k + 1) = .val (.int .i64 0) :: .val (.slice none 0 0) :: zer k := by simp [zer, List.replicate_succ]
theorem omons_app (p q : List Mon) : omons (p ++ q) = omons p ++ omons q := by simp [omons]
theorem fill2 (p : List Mon) (i : Nat) (h : i < p.length) : ((omons (p.take i) ++ zer (p.length - i)).set (i * 2) (.int (p[i]?.getD (0, [])).1)).set (i * 2 + 1) (.own 2 (p[i]?.getD (0, [])).2.length (avs (p[i]?.getD (0, [])).2)) = omons (p.take (i + 1)) ++ zer (p.length - (i + 1)) := by
  obtain ⟨k, hk⟩ : ∃ k, p.length - i = k + 1 := ⟨p.length - i - 1, by omega⟩
  have hl : (omons (p.take i)).length = i * 2 := by simp; omega
  have e1 : i * 2 - i * 2 = 0 := by omega
  have e2 : i * 2 + 1 - i * 2 = 1 := by omega
  have e3 : p.take (i + 1) = p.take i ++ [p[i]?.getD (0, [])] := by rw [List.take_add_one]; simp [h]
  rw [show p.length - (i + 1) = k by omega, hk, zer_succ, List.set_append_right _ _ (by omega), List.set_append_right _ _ (by omega), hl, e1, e2, e3, omons_app]
  simp [omons]
theorem toMonomialS_c (p : List Mon) (hl : p.length ≤ 1048576) (hr : ∀ m ∈ p, m.2.length ≤ 1048576) :
    Con Try.prog 50 [.sl p.length (mons p)] (.own 61 p.length (omons p)) := by
  refine con_of_vc Try.mixed ⟨5, [], [], []⟩ Try.func50 (by decide) rfl (by simp) (by decide) (by simp [freshOK, freshL, go_sem]) ?_
  rw [Try.ntmps50]
  simp [go_sem]
  refine ⟨by omega, ?_⟩
  refine loop_inv (3 :: 4 :: List.range' 8 14) (fun i : Nat => [(3, .own 61 p.length (omons (p.take i) ++ zer (p.length - i))), (4, .int i)]) (fun i => i ≤ p.length) (fun i => p.length - i) 0 (by simp) (by simp [go_sem]; rfl) (by simp [go_sem]) ?_
  intro i hi
  simp [go_sem]
  refine ⟨fun h => ?_, fun h => ?_⟩ <;> simp at h
  · have hx : p[i]?.getD (0, []) ∈ p := by simp [h]
    have hm := hr _ hx
    simp [go_sem, mons_drop h]
    refine ⟨⟨h, by rintro rfl; simp at h⟩, ?_⟩
    refine CallVC.of (toMonomial_c _ hm) (by decide) ?_
    simp [go_sem]
    refine ⟨h, ⟨by omega, fun _ => ?_⟩, by omega, i + 1, by omega, by omega, Off_reset _ _ _ (by simp), fill2 p i h, by omega⟩
    obtain ⟨q, hq⟩ : ∃ q, p.length - i = q + 1 := ⟨p.length - i - 1, by omega⟩
    rw [hq, zer_succ]; simp
  · simp [go_sem]
    have e : i = p.length := by omega
    subst e
    simp [zer]
theorem toMonomialSS_c (f : List (List Mon)) (hl : f.length ≤ 1048576) (hr : ∀ p ∈ f, p.length ≤ 1048576 ∧ ∀ m ∈ p, m.2.length ≤ 1048576) :
    Con Try.prog 37 [.sl f.length (prt f)] (.own 59 f.length (oprt f)) := by
  refine con_of_vc Try.mixed ⟨5, [], [], []⟩ Try.func37 (by decide) rfl (by simp) (by decide) (by simp [freshOK, freshL, go_sem]) ?_
  rw [Try.ntmps37]
  simp [go_sem]
  refine ⟨by omega, ?_⟩
  refine loop_inv (3 :: 4 :: List.range' 8 14) (fun i : Nat => [(3, .own 59 f.length (oprt (f.take i) ++ List.replicate (f.length - i) (.val (.slice none 0 0)))), (4, .int i)]) (fun i => i ≤ f.length) (fun i => f.length - i) 0 (by simp) (by simp [go_sem, oprt]) (by simp [go_sem]) ?_
  intro i hi
  simp [go_sem]
  refine ⟨fun h => ?_, fun h => ?_⟩ <;> simp at h
  · have hx : f[i]?.getD [] ∈ f := by simp [h]
    have hm := hr _ hx
    simp [go_sem, prt_drop h]
    refine ⟨⟨h, by rintro rfl; simp at h⟩, ?_⟩
    refine CallVC.of (toMonomialS_c _ hm.1 hm.2) (by decide) ?_
    simp [go_sem]
    refine ⟨h, by omega, by omega, i + 1, by omega, by omega, Off_reset _ _ _ (by simp), ?_, by omega⟩
    have e1 : ∀ k, oprt (f.take k) = (oprt f).take k := fun k => by simp [oprt, List.map_take]
    have := fill_step (oprt f) (.val (.slice none 0 0)) (.own 61 (f[i]?.getD []).length (omons (f[i]?.getD []))) i (by simpa using h) (by simp [oprt, h])
    rw [oprt_len] at this
    rw [e1, e1]
    exact this
  · simp [go_sem]
    have e : i = f.length := by omega
    subst e; simp
theorem toField_c (z : Int) (f : List (List Mon)) (hl : f.length ≤ 1048576) (hr : ∀ p ∈ f, p.length ≤ 1048576 ∧ ∀ m ∈ p, m.2.length ≤ 1048576) :
    Con Try.prog 19 [.agg [.int z, .sl f.length (prt f)]] (.agg [.int z, .own 59 f.length (oprt f)]) := by
  refine con_of_vc Try.mixed ⟨4, [], [], []⟩ Try.func19 (by decide) rfl (by simp) (by decide) (by simp [freshOK, freshL, go_sem]) ?_
  rw [Try.ntmps19]
  simp [go_sem]
  refine CallVC.of (toMonomialSS_c f hl hr) (by decide) ?_
  simp [go_sem]
theorem eqMonomial_c (m : Mon) (hl : m.2.length ≤ 9223372036854775807) :
    Con Try.prog 74 [.agg [.int m.1, .sl m.2.length (avs m.2)], .agg [.int m.1, .sl m.2.length (avs m.2)]] (.bool true) := by
  have ce := eqInt64S_c m.2 m.2 hl
  simp at ce
  refine con_of_vc Try.mixed ⟨5, [], [], []⟩ Try.func74 (by decide) rfl (by simp) (by decide) (by simp [freshOK, freshL, go_sem]) ?_
  rw [Try.ntmps74]
  simp [go_sem]
  refine CallVC.of (ce) (by decide) ?_
  simp [go_sem]
theorem eqMonomialS_c (p : List Mon) (hl : p.length ≤ 9223372036854775807) (hr : ∀ m ∈ p, m.2.length ≤ 9223372036854775807) :
    Con Try.prog 64 [.sl p.length (mons p), .sl p.length (mons p)] (.bool true) := by
  refine con_of_vc Try.mixed ⟨6, [], [], []⟩ Try.func64 (by decide) rfl (by simp) (by decide) (by simp [freshOK, freshL, go_sem]) ?_
  rw [Try.ntmps64]
  simp [go_sem]
  refine loop_inv (4 :: 5 :: List.range' 11 16) (fun i : Nat => [(5, .int i)]) (fun i => i ≤ p.length) (fun i => p.length - i) 0 (by simp) (by simp [go_sem]) (by simp [go_sem]) ?_
  intro i hi
  simp [go_sem]
  refine ⟨fun h => ?_, fun h => ?_⟩ <;> simp at h
  · have hx : p[i]?.getD (0, []) ∈ p := by simp [h]
    simp [go_sem, mons_drop h]
    refine ⟨by kernel_rfl, ⟨h, by rintro rfl; simp at h⟩, ?_⟩
    refine CallD.of (eqMonomial_c _ (hr _ hx)) (by simp [roots, rootsL]) (by decide) ?_
    simp [go_sem]
    refine ⟨by kernel_rfl, ?_⟩
    simp [go_sem]
    refine ⟨by omega, i + 1, by omega, by omega, Off_reset _ _ _ (by simp), by omega⟩
  · simp [go_sem]
theorem eqMonomialSS_c (f : List (List Mon)) (hf : Fit f) :
    Con Try.prog 46 [.sl f.length (prt f), .sl f.length (prt f)] (.bool true) := by
  have hl := hf.1
  refine con_of_vc Try.mixed ⟨6, [], [], []⟩ Try.func46 (by decide) rfl (by simp) (by decide) (by simp [freshOK, freshL, go_sem]) ?_
  rw [Try.ntmps46]
  simp [go_sem]
  refine loop_inv (4 :: 5 :: List.range' 11 16) (fun i : Nat => [(5, .int i)]) (fun i => i ≤ f.length) (fun i => f.length - i) 0 (by simp) (by simp [go_sem]) (by simp [go_sem]) ?_
  intro i hi
  simp [go_sem]
  refine ⟨fun h => ?_, fun h => ?_⟩ <;> simp at h
  · have hx : f[i]?.getD [] ∈ f := by simp [h]
    simp [go_sem, prt_drop h]
    refine ⟨by kernel_rfl, ⟨h, by rintro rfl; simp at h⟩, ?_⟩
    refine CallD.of (eqMonomialS_c _ (hf.2 _ hx).1 (hf.2 _ hx).2) (by simp [roots, rootsL]) (by decide) ?_
    simp [go_sem]
    refine ⟨by kernel_rfl, ?_⟩
    simp [go_sem]
    refine ⟨by omega, i + 1, by omega, by omega, Off_reset _ _ _ (by simp), by omega⟩
  · simp [go_sem]
theorem eqField_c (z : Int) (f : List (List Mon)) (hf : Fit f) :
    Con Try.prog 25 [.agg [.int z, .sl f.length (prt f)], .agg [.int z, .sl f.length (prt f)]] (.bool true) := by
  refine con_of_vc Try.mixed ⟨5, [], [], []⟩ Try.func25 (by decide) rfl (by simp) (by decide) (by simp [freshOK, freshL, go_sem]) ?_
  rw [Try.ntmps25]
  simp [go_sem]
  refine CallVC.of (eqMonomialSS_c f hf) (by decide) ?_
  simp [go_sem]
end Go.Proofs.Ytoeikpioonlmfaa


namespace Go.Proofs.Ytoeikpioonlmfaa
open Go.Abs
set_option linter.unusedSectionVars false
set_option linter.unusedVariables false
set_option linter.unusedSimpArgs false
set_option maxHeartbeats 1000000
def ltL : List Int → List Int → Bool
  | _, [] => false
  | [], _ :: _ => true
  | x :: xs, y :: ys => if x = y then ltL xs ys else decide (x < y)
theorem ltL_at : ∀ {a b : List Int} {i : Nat}, i < a.length → i < b.length → a.take i = b.take i → a[i]?.getD 0 ≠ b[i]?.getD 0 → ltL a b = decide (a[i]?.getD 0 < b[i]?.getD 0)
  | x :: a, y :: b, 0, _, _, _, h => by
    simp at h
    simp [ltL, h]
  | x :: a, y :: b, i + 1, h1, h2, h3, h4 => by
    simp at h3
    simp only [ltL, if_pos h3.1]
    simpa using ltL_at (a := a) (b := b) (i := i) (by simpa using h1) (by simpa using h2) h3.2 (by simpa using h4)
theorem ltL_end : ∀ {a b : List Int} {i : Nat}, a.take i = b.take i → i ≤ a.length → i ≤ b.length → (a.length ≤ i ∨ b.length ≤ i) → ltL a b = decide (a.length < b.length)
  | _, [], i, _, _, _, _ => by simp [ltL]
  | [], _ :: _, i, _, _, _, _ => by simp [ltL]
  | x :: a, y :: b, 0, _, h1, h2, h3 => by simp at h3
  | x :: a, y :: b, i + 1, h, h1, h2, h3 => by
    simp at h
    simp only [ltL, if_pos h.1]
    have := ltL_end (a := a) (b := b) (i := i) h.2 (by simpa using h1) (by simpa using h2) (by simpa using h3)
    rw [this]; simp
theorem take_ext {a b : List Int} {i : Nat} (h1 : i < a.length) (h2 : i < b.length) (h : a.take i = b.take i) (e : a[i]?.getD 0 = b[i]?.getD 0) : a.take (i + 1) = b.take (i + 1) := by
  rw [List.getElem?_eq_getElem h1, List.getElem?_eq_getElem h2] at e
  simp at e
  rw [List.take_add_one, List.take_add_one, h, List.getElem?_eq_getElem h1, List.getElem?_eq_getElem h2, e]
set_option maxRecDepth 100000 in
theorem l01Less_c (a b : List Int) (ha : a.length ≤ 9223372036854775807) (hb : b.length ≤ 9223372036854775807) : Con Try.prog 35 [.sl a.length (avs a), .sl b.length (avs b)] (.bool (ltL a b)) := by
  refine con_of_vc Try.mixed ⟨6, [], [], []⟩ Try.func35 (by decide) rfl (by simp) (by decide) (by simp [freshOK, freshL, go_sem]) ?_
  rw [Try.ntmps35]
  simp [go_sem]
  refine loop_inv (4 :: 5 :: List.range' 6 30) (fun i : Nat => [(5, .int i)]) (fun i => i ≤ a.length ∧ i ≤ b.length ∧ a.take i = b.take i) (fun i => a.length - i) 0 (by simp) (by simp [go_sem]) (by simp [go_sem]) ?_
  rintro i ⟨hi, hj, he⟩
  by_cases h1 : i < a.length
  · by_cases h2 : i < b.length
    · have h1' : (i : Int) < a.length := by omega
      have h2' : (i : Int) < b.length := by omega
      by_cases hd : a[i]?.getD 0 = b[i]?.getD 0
      · simp [go_sem, h1, h2, h1', h2', avs_drop h1, avs_drop h2, hd]
        refine ⟨by kernel_rfl, by rintro rfl; simp at h1, by rintro rfl; simp at h2, ?_⟩
        have hd2 : a[i] = b[i] := by simpa [h1, h2] using hd
        refine ⟨by kernel_rfl, ?_⟩
        simp [go_sem]
        simp [go_sem, hd2]
        refine ⟨by omega, i + 1, ⟨by omega, by omega, take_ext h1 h2 he hd⟩, by omega, Off_reset _ _ _ (by simp), by omega⟩
      · simp [go_sem, h1, h2, h1', h2', avs_drop h1, avs_drop h2, hd]
        refine ⟨by kernel_rfl, by rintro rfl; simp at h1, by rintro rfl; simp at h2, ?_⟩
        have hd2 : ¬ a[i] = b[i] := by simpa [h1, h2] using hd
        refine ⟨by kernel_rfl, ?_⟩
        simp [go_sem]
        simp [go_sem, hd2, avs_drop h1, avs_drop h2]
        refine ⟨by kernel_rfl, ⟨h1, by rintro rfl; simp at h1⟩, ⟨h2, by rintro rfl; simp at h2⟩, ?_⟩
        refine ⟨by kernel_rfl, ?_⟩
        simp [go_sem]
        rw [ltL_at h1 h2 he hd]
    · have h2' : ¬ (i : Int) < b.length := by omega
      simp [go_sem, h1, h2, h2']
      rw [ltL_end he hi hj (.inr (by omega))]
  · simp [go_sem, h1]
    rw [ltL_end he hi hj (.inl (by omega))]
def degL : List Int → Int → Int
  | [], s => s
  | x :: xs, s => if x < 0 ∨ 100 < x then 1000 else degL xs (s + x)
set_option maxRecDepth 100000 in
theorem l13Degree_c (a : List Int) (ha : a.length ≤ 1048576) : Con Try.prog 34 [.sl a.length (avs a)] (.int (degL a 0)) := by
  refine con_of_vc Try.mixed ⟨5, [], [], []⟩ Try.func34 (by decide) rfl (by simp) (by decide) (by simp [freshOK, freshL, go_sem]) ?_
  rw [Try.ntmps34]
  simp [go_sem]
  refine loop_inv (2 :: 3 :: 4 :: List.range' 5 24) (fun x : Nat × Int => [(3, .int x.2), (4, .int x.1)]) (fun x => x.1 ≤ a.length ∧ 0 ≤ x.2 ∧ x.2 ≤ 100 * x.1 ∧ degL (a.drop x.1) x.2 = degL a 0) (fun x => a.length - x.1) (0, 0) (by simp) (by simp [go_sem]) (by simp [go_sem]) ?_
  rintro ⟨i, s⟩ ⟨hi, hs0, hs1, he⟩
  simp only at hi hs0 hs1 he
  simp [go_sem]
  refine ⟨fun h => ?_, fun h => ?_⟩ <;> simp at h
  · have hd : a.drop i = a[i]?.getD 0 :: a.drop (i + 1) := by rw [List.drop_eq_getElem_cons h]; simp [h]
    rw [hd, degL] at he
    by_cases b1 : a[i]?.getD 0 < 0
    · simp [go_sem, avs_drop h, b1]
      rw [if_pos (.inl b1)] at he
      exact ⟨⟨h, by rintro rfl; simp at h⟩, he⟩
    · by_cases b2 : 100 < a[i]?.getD 0
      · simp [go_sem, avs_drop h, b1, b2]
        rw [if_pos (.inr b2)] at he
        exact ⟨⟨h, by rintro rfl; simp at h⟩, he⟩
      · simp [go_sem, avs_drop h, b1, b2]
        rw [if_neg (by omega)] at he
        refine ⟨⟨h, by rintro rfl; simp at h⟩, by omega, by omega, i + 1, _, ⟨by omega, by omega, by omega, he⟩, by omega, Off_reset _ _ _ (by simp), rfl, by omega⟩
  · simp [go_sem]
    rw [List.drop_eq_nil_of_le h] at he
    exact he
def monB (z : Int) (m : Mon) : Bool := decide (1 ≤ m.1 ∧ m.1 ≤ 10006) && decide ((m.2.length : Int) = z) && decide (degL m.2 0 ≤ 3)
def atB (z : Int) (p : List Mon) (j : Nat) : Bool := monB z (p[j]?.getD (0, [])) && (decide (j = 0) || ltL (p[j - 1]?.getD (0, [])).2 (p[j]?.getD (0, [])).2)
def partB (z : Int) (p : List Mon) : Bool := (List.range p.length).all (atB z p)
def fieldB (z : Int) (f : List (List Mon)) : Bool := decide (1 ≤ z ∧ z ≤ 3) && decide ((f.length : Int) = z) && f.all (partB z)
theorem partB_no {z : Int} {p : List Mon} {j : Nat} (hj : j < p.length) (h : atB z p j = false) : partB z p = false := by
  unfold partB; rw [List.all_eq_false]; exact ⟨j, by simpa using hj, by simp [h]⟩
theorem partB_yes {z : Int} {p : List Mon} (h : ∀ j, j < p.length → atB z p j = true) : partB z p = true := by
  unfold partB; rw [List.all_eq_true]; intro j hj; exact h j (by simpa using hj)
theorem fieldB_no {z : Int} {f : List (List Mon)} {i : Nat} (hi : i < f.length) (h : partB z (f[i]?.getD []) = false) : fieldB z f = false := by
  unfold fieldB
  have : f.all (partB z) = false := by rw [List.all_eq_false]; exact ⟨f[i]?.getD [], by simp [hi], by simp [h]⟩
  rw [this]; simp
def Small (f : List (List Mon)) : Prop := f.length ≤ 1048576 ∧ ∀ p ∈ f, p.length ≤ 1048576 ∧ ∀ q ∈ p, q.2.length ≤ 1048576
set_option maxRecDepth 100000 in
theorem l13Is_c (z : Int) (f : List (List Mon)) (hf : Small f) : Con Try.prog 15 [.agg [.int z, .sl f.length (prt f)]] (.bool (fieldB z f)) := by
  have fl := hf.1
  refine con_of_vc Try.mixed ⟨6, [], [], []⟩ Try.func15 (by decide) rfl (by simp) (by decide) (by simp [freshOK, freshL, go_sem]) ?_
  rw [Try.ntmps15]
  simp [go_sem]
  refine CallVC.of (l01In_c z 1 3) (by decide) ?_
  simp [go_sem]
  by_cases hz : 1 ≤ z ∧ z ≤ 3
  · by_cases hl : (f.length : Int) = z
    · have fine : fieldB z f = f.all (partB z) := by unfold fieldB; simp [hz, hl]
      simp [go_sem, hz.1, hz.2, hl]
      refine loop_inv (2 :: 3 :: 4 :: 5 :: List.range' 18 61) (fun i : Nat => [(3, .int i)]) (fun i => i ≤ f.length ∧ ∀ p ∈ f.take i, partB z p = true) (fun i => f.length - i) 0 (by simp) (by simp [go_sem]) (by simp [go_sem]) ?_
      rintro i ⟨hi, hp⟩
      simp [go_sem]
      refine ⟨fun h => ?_, fun h => ?_⟩ <;> simp at h
      · have hx : f[i]?.getD [] ∈ f := by simp [h]
        obtain ⟨hm1, hm2⟩ := hf.2 _ hx
        simp [go_sem]
        refine loop_inv (2 :: 4 :: 5 :: List.range' 25 54) (fun j : Nat => [(4, .int j)]) (fun j => j ≤ (f[i]?.getD []).length ∧ ∀ k, k < j → atB z (f[i]?.getD []) k = true) (fun j => (f[i]?.getD []).length - j) 0 (by simp) (by simp [go_sem]) (by simp [go_sem]) ?_
        rintro j ⟨hj, hq⟩
        have hif := h
        simp [go_sem, prt_drop hif]
        refine ⟨⟨hif, by rintro rfl; simp at hif⟩, ?_⟩
        generalize hP : f[i]?.getD [] = P at *
        refine ⟨fun h => ?_, fun h => ?_⟩ <;> simp at h
        · have hy : P[j]?.getD (0, []) ∈ P := by simp [h]
          have hm := hm2 _ hy
          have hno : atB z P j = false → fieldB z f = false := fun hh => fieldB_no hif (by rw [hP]; exact partB_no h hh)
          simp [go_sem, prt_drop hif, hP, mons_drop h]
          refine ⟨⟨hif, by rintro rfl; simp at hif⟩, ⟨h, by rintro rfl; simp at h⟩, ?_⟩
          generalize hM : P[j]?.getD (0, []) = m at *
          have cD := l13Degree_c m.2 hm
          refine CallVC.of (l01In_c _ _ _) (by decide) ?_
          by_cases c1 : 1 ≤ m.1 ∧ m.1 ≤ 10006
          · by_cases c2 : (m.2.length : Int) = z
            · simp [go_sem, c1.1, c1.2, c2]
              refine CallVC.of (cD) (by decide) ?_
              by_cases c3 : degL m.2 0 ≤ 3
              · have c3' : ¬ 3 < degL m.2 0 := by omega
                have hmb : monB z m = true := by unfold monB; simp [c1, c2, c3]
                simp [go_sem, c3']
                refine ⟨by kernel_rfl, ?_⟩
                by_cases j0 : 0 < j
                · have hk : j - 1 < P.length := by omega
                  have ek : (j : Int) - 1 = ((j - 1 : Nat) : Int) := by omega
                  have hyk : P[j - 1]?.getD (0, []) ∈ P := by simp [hk]
                  have hmk := hm2 _ hyk
                  have cL := l01Less_c (P[j - 1]?.getD (0, [])).2 m.2 (by omega) (by omega)
                  have hat : atB z P j = ltL (P[j - 1]?.getD (0, [])).2 m.2 := by unfold atB; rw [hM, hmb, decide_eq_false (by omega : ¬ j = 0)]; simp
                  simp [go_sem, j0, ek, prt_drop hif, hP, mons_drop hk]
                  generalize (P[j - 1]?.getD (0, [])).2 = pw0 at *
                  refine ⟨⟨hif, by rintro rfl; simp at hif⟩, by omega, ⟨hk, by rintro rfl; simp at h⟩, ?_⟩
                  generalize hL : ltL pw0 m.2 = bb at *
                  refine CallD.of (cL) (by simp [roots, rootsL]) (by decide) ?_
                  simp [go_sem]
                  cases bb with
                  | false =>
                    simp [go_sem]
                    refine ⟨by kernel_rfl, ?_⟩
                    simp [go_sem]
                    rw [hno hat]
                  | true =>
                    simp [go_sem]
                    refine ⟨by kernel_rfl, ?_⟩
                    simp [go_sem]
                    refine ⟨by omega, j + 1, ⟨by omega, fun k hk2 => ?_⟩, by omega, Off_reset _ _ _ (by simp), by omega⟩
                    by_cases e : k = j
                    · rw [e]; exact hat
                    · exact hq k (by omega)
                · simp [go_sem, j0]
                  refine ⟨by kernel_rfl, ?_⟩
                  simp [go_sem]
                  have hat : atB z P j = true := by unfold atB; rw [hM, hmb, decide_eq_true (by omega : j = 0)]; rfl
                  refine ⟨by omega, j + 1, ⟨by omega, fun k hk2 => ?_⟩, by omega, Off_reset _ _ _ (by simp), by omega⟩
                  by_cases e : k = j
                  · rw [e]; exact hat
                  · exact hq k (by omega)
              · have c3' : 3 < degL m.2 0 := by omega
                simp [go_sem, c3']
                rw [hno (by unfold atB monB; rw [hM, decide_eq_false c3]; simp)]
            · simp [go_sem, c1.1, c1.2, c2]
              rw [hno (by unfold atB monB; simp [hM, c2])]
          · have c1' : (decide (1 ≤ m.1) && decide (m.1 ≤ 10006)) = false := by simpa using c1
            rw [c1']
            simp [go_sem]
            rw [hno (by unfold atB monB; rw [hM, decide_eq_false c1]; simp)]
        · simp [go_sem]
          have hpb : partB z P = true := partB_yes (fun k hk => hq k (by omega))
          refine ⟨by omega, i + 1, ⟨by omega, take_all hif hp (by rw [← hP] at hpb; simpa [hif] using hpb)⟩, by omega, (Off.reset (by intro x hx; simp at hx ⊢; omega) (by simp) (by simp [go_sem, Off_reset])), by omega⟩
      · simp [go_sem]
        rw [List.take_of_length_le h] at hp
        rw [fine, List.all_eq_true.2 hp]
    · simp [go_sem, hz.1, hz.2, hl]
      unfold fieldB; simp [hl]
  · have hz' : (decide (1 ≤ z) && decide (z ≤ 3)) = false := by simpa using hz
    rw [hz']
    simp [go_sem]
    unfold fieldB; rw [decide_eq_false hz]; simp
end Go.Proofs.Ytoeikpioonlmfaa


namespace Go.Proofs.Ytoeikpioonlmfaa
open Go.Abs
set_option linter.unusedSectionVars false
set_option linter.unusedVariables false
set_option linter.unusedSimpArgs false
set_option maxHeartbeats 1000000
theorem degL_le : ∀ {xs : List Int} {s : Int}, 0 ≤ s → degL xs s ≤ 3 → (∀ x ∈ xs, 0 ≤ x ∧ x ≤ 3) ∧ s + xs.sum ≤ 3
  | [], s, h0, h => by simpa [degL] using h
  | x :: xs, s, h0, h => by
    rw [degL] at h
    split at h
    · omega
    · rename_i hx
      have hd := degL_le (xs := xs) (s := s + x) (by omega) h
      have pos : ∀ (l : List Int), (∀ x ∈ l, 0 ≤ x ∧ x ≤ 3) → 0 ≤ l.sum := by
        intro l
        induction l with
        | nil => simp
        | cons a l ih => intro h; have h1 := h a (by simp); have h2 := ih (fun x hx => h x (by simp [hx])); simp; omega
      have hs := pos xs hd.1
      have hd2 := hd.2
      refine ⟨fun y hy => ?_, by simp; omega⟩
      rcases List.mem_cons.1 hy with rfl | hy
      · omega
      · exact hd.1 y hy
structure MonOk (z : Int) (m : Mon) : Prop where
  lo : 1 ≤ m.1
  hi : m.1 ≤ 10006
  len : (m.2.length : Int) = z
  pw : ∀ x ∈ m.2, 0 ≤ x ∧ x ≤ 3
  deg : m.2.sum ≤ 3
structure FieldOk (z : Int) (f : List (List Mon)) : Prop where
  lo : 1 ≤ z
  hi : z ≤ 3
  len : (f.length : Int) = z
  part : ∀ p ∈ f, partB z p = true
theorem l13Point_c (z : Int) (y : List Int) (hl : y.length ≤ 9223372036854775807) : Con Try.prog 16 [.int z, .sl y.length (avs y)] (.bool (decide ((y.length : Int) = z) && numsB y)) := by
  refine con_of_vc Try.mixed ⟨5, [], [], []⟩ Try.func16 (by decide) rfl (by simp) (by decide) (by simp [freshOK, freshL, go_sem]) ?_
  rw [Try.ntmps16]
  simp [go_sem]
  by_cases h : (y.length : Int) = z
  · simp [go_sem, h]
    refine CallVC.of (l01Numbers_c y hl) (by decide) ?_
    simp [go_sem]
  · simp [go_sem, h]
end Go.Proofs.Ytoeikpioonlmfaa


namespace Go.Proofs.Ytoeikpioonlmfaa
open Go.Abs
set_option linter.unusedSectionVars false
set_option linter.unusedVariables false
set_option linter.unusedSimpArgs false
set_option maxHeartbeats 1000000
def cmpI (x y : Int) : Int := if x < y then -1 else if y < x then 1 else 0
theorem isNaN_c [DrawK] (x : Int) : Con Try.prog 85 [.int x] (.bool false) := by
  refine con_of_vc Try.mixed ⟨3, [], [], []⟩ Try.func85 (by decide) rfl (by simp) (by decide) (by simp [freshOK, freshL, go_sem]) ?_
  rw [Try.ntmps85]
  simp [go_sem]
theorem Compare1_c [DrawK] (x y : Int) : Con Try.prog 69 [.int x, .int y] (.int (cmpI x y)) := by
  refine con_of_vc Try.mixed ⟨7, [], [], []⟩ Try.func69 (by decide) rfl (by simp) (by decide) (by simp [freshOK, freshL, go_sem]) ?_
  rw [Try.ntmps69]
  simp [go_sem]
  refine CallVC.of (isNaN_c _) (by decide) ?_
  simp [go_sem]
  refine CallVC.of (isNaN_c _) (by decide) ?_
  simp [go_sem]
  unfold cmpI
  by_cases h1 : x < y
  · simp [go_sem, h1]
  · by_cases h2 : y < x
    · simp [go_sem, h1, h2]
    · simp [go_sem, h1, h2]
def cmpL : List Int → List Int → Int
  | [], [] => 0
  | [], _ :: _ => -1
  | _ :: _, [] => 1
  | x :: xs, y :: ys => if x = y then cmpL xs ys else cmpI x y
theorem cmpI_ne {x y : Int} (h : x ≠ y) : cmpI x y ≠ 0 := by unfold cmpI; split; omega; split <;> omega
theorem cmpL_lt : ∀ a b : List Int, decide (0 ≤ cmpL a b) = !ltL a b
  | [], [] => by simp [cmpL, ltL]
  | [], _ :: _ => by simp [cmpL, ltL]
  | _ :: _, [] => by simp [cmpL, ltL]
  | x :: xs, y :: ys => by
    rw [cmpL, ltL]
    by_cases h : x = y
    · rw [if_pos h, if_pos h]; exact cmpL_lt xs ys
    · rw [if_neg h, if_neg h]
      unfold cmpI
      by_cases h1 : x < y
      · simp [h1]
      · have : y < x := by omega
        simp [h1, this]
theorem cmpL_at : ∀ {a b : List Int} {i : Nat}, i < a.length → i < b.length → a.take i = b.take i → a[i]?.getD 0 ≠ b[i]?.getD 0 → cmpL a b = cmpI (a[i]?.getD 0) (b[i]?.getD 0)
  | x :: a, y :: b, 0, _, _, _, h => by
    simp at h
    simp [cmpL, h]
  | x :: a, y :: b, i + 1, h1, h2, h3, h4 => by
    simp at h3
    simp only [cmpL, if_pos h3.1]
    simpa using cmpL_at (a := a) (b := b) (i := i) (by simpa using h1) (by simpa using h2) h3.2 (by simpa using h4)
theorem cmpL_more : ∀ {a b : List Int} {i : Nat}, i < a.length → b.length ≤ i → a.take b.length = b → cmpL a b = 1
  | x :: a, [], _, _, _, _ => by simp [cmpL]
  | x :: a, y :: b, 0, _, h, _ => by simp at h
  | x :: a, y :: b, i + 1, h1, h2, h3 => by
    simp at h3
    simp only [cmpL, if_pos h3.1]
    exact cmpL_more (a := a) (b := b) (i := i) (by simpa using h1) (by simpa using h2) h3.2
theorem cmpL_end : ∀ {a b : List Int}, a = b.take a.length → cmpL a b = if a.length < b.length then -1 else 0
  | [], [], _ => by simp [cmpL]
  | [], _ :: _, _ => by simp [cmpL]
  | x :: a, [], h => by simp at h
  | x :: a, y :: b, h => by
    simp at h
    simp only [cmpL, if_pos h.1]
    rw [cmpL_end h.2]; simp
set_option maxRecDepth 100000 in
theorem Compare_c [DrawK] (a b : List Int) (ha : a.length ≤ 9223372036854775807) (hb : b.length ≤ 9223372036854775807) : Con Try.prog 55 [.sl a.length (avs a), .sl b.length (avs b)] (.int (cmpL a b)) := by
  refine con_of_vc Try.mixed ⟨9, [], [], []⟩ Try.func55 (by decide) rfl (by simp) (by decide) (by simp [freshOK, freshL, go_sem]) ?_
  rw [Try.ntmps55]
  simp [go_sem]
  refine loop_inv (4 :: 5 :: 6 :: 7 :: 8 :: List.range' 11 20) (fun i : Nat => [(11, .int i)]) (fun i => i ≤ a.length ∧ i ≤ b.length ∧ a.take i = b.take i) (fun i => a.length - i) 0 (by simp) (by simp [go_sem]) (by simp [go_sem]) ?_
  rintro i ⟨hi, hj, he⟩
  simp [go_sem]
  refine ⟨fun h => ?_, fun h => ?_⟩ <;> simp at h
  · have h1 := h
    simp [go_sem, avs_drop h1]
    refine ⟨⟨h1, by rintro rfl; simp at h1⟩, ?_⟩
    by_cases h2 : i < b.length
    · have h2' : ¬ (b.length ≤ i) := by omega
      simp [go_sem, h2', avs_drop h2]
      refine ⟨⟨h2, by rintro rfl; simp at h2⟩, ?_⟩
      refine CallVC.of (Compare1_c _ _) (by decide) ?_
      simp [go_sem]
      by_cases hd : a[i]?.getD 0 = b[i]?.getD 0
      · have hc : cmpI (a[i]?.getD 0) (b[i]?.getD 0) = 0 := by unfold cmpI; rw [if_neg (by omega), if_neg (by omega)]
        simp [go_sem, hc]
        refine ⟨by omega, i + 1, ⟨by omega, by omega, take_ext h1 h2 he hd⟩, by omega, Off_reset _ _ _ (by simp), by omega⟩
      · have hc := cmpI_ne hd
        simp [go_sem, hc]
        rw [cmpL_at h1 h2 he hd]
    · have h2' : b.length ≤ i := by omega
      have e : i = b.length := by omega
      simp [go_sem, h2']
      rw [cmpL_more h1 h2' (by rw [← e, he, e, List.take_length])]
  · simp [go_sem]
    have e : i = a.length := by omega
    subst e
    rw [List.take_length] at he
    rw [cmpL_end he]
    by_cases h3 : a.length < b.length
    · simp [go_sem, h3]
    · simp [go_sem, h3]
theorem degL_big {xs : List Int} {s : Int} (h : 3 < s) : ¬ degL xs s ≤ 3 := by
  intro hd
  have := degL_le (by omega : 0 ≤ s) hd
  have pos : ∀ (l : List Int), (∀ x ∈ l, 0 ≤ x ∧ x ≤ 3) → 0 ≤ l.sum := by
    intro l
    induction l with
    | nil => simp
    | cons a l ih => intro h; have h1 := h a (by simp); have h2 := ih (fun x hx => h x (by simp [hx])); simp; omega
  have := pos xs this.1
  omega
set_option maxRecDepth 100000 in
theorem isMonomial_c (z : Int) (m : Mon) (hl : m.2.length ≤ 1048576) : Con Try.prog 63 [.agg [.int m.1, .sl m.2.length (avs m.2)], .int z] (.bool (monB z m)) := by
  refine con_of_vc Try.mixed ⟨8, [], [], []⟩ Try.func63 (by decide) rfl (by simp) (by decide) (by simp [freshOK, freshL, go_sem]) ?_
  rw [Try.ntmps63]
  simp [go_sem]
  refine loop_inv (4 :: 5 :: 7 :: List.range' 11 11) (fun x : Nat × Int => [(5, .int x.2), (11, .int x.1)]) (fun x => x.1 ≤ m.2.length ∧ 0 ≤ x.2 ∧ x.2 ≤ 3 * x.1 ∧ degL (m.2.drop x.1) x.2 = degL m.2 0) (fun x => m.2.length - x.1) (0, 0) (by simp) (by simp [go_sem]) (by simp [go_sem]) ?_
  rintro ⟨i, s⟩ ⟨hi, hs0, hs1, he⟩
  simp only at hi hs0 hs1 he
  simp [go_sem]
  refine ⟨fun h => ?_, fun h => ?_⟩ <;> simp at h
  · have hd : m.2.drop i = m.2[i]?.getD 0 :: m.2.drop (i + 1) := by rw [List.drop_eq_getElem_cons h]; simp [h]
    simp [go_sem, avs_drop h]
    refine ⟨⟨h, fun e => by rw [e] at h; simp at h⟩, ?_⟩
    refine CallVC.of (inRange_c _ _ _) (by decide) ?_
    by_cases hx : 0 ≤ m.2[i]?.getD 0 ∧ m.2[i]?.getD 0 ≤ 3
    · simp [go_sem, hx.1, hx.2]
      rw [hd, degL, if_neg (by omega)] at he
      refine ⟨by omega, by omega, i + 1, _, ⟨by omega, by omega, by omega, he⟩, by omega, Off_reset _ _ _ (by simp), rfl, by omega⟩
    · have hx' : (decide (0 ≤ m.2[i]?.getD 0) && decide (m.2[i]?.getD 0 ≤ 3)) = false := by simpa using hx
      have hm : monB z m = false := by
        have : ¬ degL m.2 0 ≤ 3 := by
          rw [← he, hd, degL]
          split
          · omega
          · exact degL_big (by omega)
        unfold monB; rw [decide_eq_false this]; simp
      rw [hx']
      simp [go_sem]
      rw [hm]
  · simp [go_sem]
    rw [List.drop_eq_nil_of_le h, degL] at he
    subst he
    by_cases c0 : m.1 = 0
    · simp [go_sem, c0]
      unfold monB; simp [c0]
    · simp [go_sem, c0]
      refine CallVC.of (IsNumber_c _) (by decide) ?_
      simp [go_sem]
      by_cases c1 : 0 ≤ m.1 ∧ m.1 ≤ 10006
      · simp [go_sem, c1.1, c1.2]
        refine CallVC.of (length_c _ _ (by omega)) (by decide) ?_
        simp [go_sem]
        by_cases c2 : (m.2.length : Int) = z
        · simp [go_sem, c2]
          unfold monB
          have : 1 ≤ m.1 := by omega
          simp [this, c1.2, c2]
        · simp [go_sem, c2]
          unfold monB; simp [c2]
      · have c1' : (decide (0 ≤ m.1) && decide (m.1 ≤ 10006)) = false := by simpa using c1
        rw [c1']
        simp [go_sem]
        have : ¬ (1 ≤ m.1 ∧ m.1 ≤ 10006) := by omega
        unfold monB; rw [decide_eq_false this]; simp
theorem lengthP_c (n : Nat) (cs : List AV) (hn : n ≤ 9223372036854775807) : Con Try.prog 62 [.sl n cs] (.int n) := by
  refine con_of_vc Try.mixed ⟨3, [], [], []⟩ Try.func62 (by decide) rfl (by simp) (by decide) (by simp [freshOK, freshL, go_sem]) ?_
  rw [Try.ntmps62]
  simp [go_sem]
  try omega
set_option maxRecDepth 100000 in
theorem IsField_c (z : Int) (f : List (List Mon)) (hf : Small f) : Con Try.prog 43 [.agg [.int z, .sl f.length (prt f)]] (.bool (fieldB z f)) := by
  have fl := hf.1
  refine con_of_vc Try.mixed ⟨7, [], [], []⟩ Try.func43 (by decide) rfl (by simp) (by decide) (by simp [freshOK, freshL, go_sem]) ?_
  rw [Try.ntmps43]
  simp [go_sem]
  refine ⟨by kernel_rfl, ?_⟩
  refine CallD.of (inRange_c z 1 3) (by simp [roots, rootsL]) (by decide) ?_
  simp [go_sem]
  by_cases hz : 1 ≤ z ∧ z ≤ 3
  · have cl := lengthP_c f.length (prt f) (by omega)
    by_cases hl : (f.length : Int) = z
    · have fine : fieldB z f = f.all (partB z) := by unfold fieldB; simp [hz, hl]
      simp [go_sem, hz.1, hz.2]
      refine CallD.of (cl) (by simp [roots, rootsL]) (by decide) ?_
      simp [go_sem]
      simp [go_sem, hl]
      refine ⟨by kernel_rfl, ?_⟩
      simp [go_sem]
      refine loop_inv (2 :: 4 :: 5 :: 6 :: List.range' 22 34) (fun i : Nat => [(22, .int i)]) (fun i => i ≤ f.length ∧ ∀ p ∈ f.take i, partB z p = true) (fun i => f.length - i) 0 (by simp) (by simp [go_sem]) (by simp [go_sem]) ?_
      rintro i ⟨hi, hp⟩
      simp [go_sem]
      refine ⟨fun h => ?_, fun h => ?_⟩ <;> simp at h
      · have hif := h
        have hx : f[i]?.getD [] ∈ f := by simp [h]
        obtain ⟨hm1, hm2⟩ := hf.2 _ hx
        simp [go_sem, prt_drop hif]
        refine ⟨⟨hif, by rintro rfl; simp at hif⟩, ?_⟩
        generalize hP : f[i]?.getD [] = P at *
        refine loop_inv (2 :: 5 :: 6 :: List.range' 28 27) (fun j : Nat => [(28, .int j)]) (fun j => j ≤ P.length ∧ ∀ k, k < j → atB z P k = true) (fun j => P.length - j) 0 (by simp) (by simp [go_sem]) (by simp [go_sem]) ?_
        rintro j ⟨hj, hq⟩
        simp [go_sem]
        refine ⟨fun h => ?_, fun h => ?_⟩ <;> simp at h
        · have hy : P[j]?.getD (0, []) ∈ P := by simp [h]
          have hm := hm2 _ hy
          have hno : atB z P j = false → fieldB z f = false := fun hh => fieldB_no hif (by rw [hP]; exact partB_no h hh)
          simp [go_sem, mons_drop h]
          refine ⟨⟨h, by rintro rfl; simp at h⟩, by kernel_rfl, ?_⟩
          generalize hM : P[j]?.getD (0, []) = m at *
          have cM := isMonomial_c z m hm
          generalize hmb : monB z m = mb at *
          refine CallD.of (cM) (by simp [roots, rootsL]) (by decide) ?_
          simp [go_sem]
          cases mb with
          | false =>
            simp [go_sem]
            refine ⟨by kernel_rfl, ?_⟩
            simp [go_sem]
            rw [hno (by unfold atB; rw [hM, hmb]; rfl)]
          | true =>
            by_cases j0 : 0 < j
            · have hk : j - 1 < P.length := by omega
              have ek : (j : Int) - 1 = ((j - 1 : Nat) : Int) := by omega
              have hyk : P[j - 1]?.getD (0, []) ∈ P := by simp [hk]
              have hmk := hm2 _ hyk
              have cC := Compare_c (P[j - 1]?.getD (0, [])).2 m.2 (by omega) (by omega)
              have hat : atB z P j = ltL (P[j - 1]?.getD (0, [])).2 m.2 := by unfold atB; rw [hM, hmb, decide_eq_false (by omega : ¬ j = 0)]; simp
              have hlt := cmpL_lt (P[j - 1]?.getD (0, [])).2 m.2
              simp [go_sem, j0, ek, mons_drop hk]
              refine ⟨by omega, ⟨hk, by rintro rfl; simp at h⟩, ?_⟩
              generalize (P[j - 1]?.getD (0, [])).2 = pw0 at *
              generalize hc : cmpL pw0 m.2 = c at *
              refine CallD.of (cC) (by simp [roots, rootsL]) (by decide) ?_
              simp [go_sem]
              cases hL : ltL pw0 m.2 with
              | false =>
                rw [hL] at hlt hat
                have hc0 : 0 ≤ c := by simpa using hlt
                simp [go_sem, hc0]
                refine ⟨by kernel_rfl, ?_⟩
                simp [go_sem]
                rw [hno hat]
              | true =>
                rw [hL] at hlt hat
                have hc0 : ¬ 0 ≤ c := by simpa using hlt
                simp [go_sem, hc0]
                refine ⟨by kernel_rfl, ?_⟩
                simp [go_sem]
                refine ⟨by omega, j + 1, ⟨by omega, fun k hk2 => ?_⟩, by omega, Off_reset _ _ _ (by simp), by omega⟩
                by_cases e : k = j
                · rw [e]; exact hat
                · exact hq k (by omega)
            · simp [go_sem, j0]
              refine ⟨by kernel_rfl, ?_⟩
              simp [go_sem]
              have hat : atB z P j = true := by unfold atB; rw [hM, hmb, decide_eq_true (by omega : j = 0)]; rfl
              refine ⟨by omega, j + 1, ⟨by omega, fun k hk2 => ?_⟩, by omega, Off_reset _ _ _ (by simp), by omega⟩
              by_cases e : k = j
              · rw [e]; exact hat
              · exact hq k (by omega)
        · simp [go_sem]
          have hpb : partB z P = true := partB_yes (fun k hk => hq k (by omega))
          refine ⟨by omega, i + 1, ⟨by omega, take_all hif hp (by rw [← hP] at hpb; simpa [hif] using hpb)⟩, by omega, (Off.reset (by intro x hx; simp at hx ⊢; omega) (by simp) (by simp [go_sem, Off_reset])), by omega⟩
      · simp [go_sem]
        rw [List.take_of_length_le h] at hp
        rw [fine, List.all_eq_true.2 hp]
    · simp [go_sem, hz.1, hz.2]
      refine CallD.of (cl) (by simp [roots, rootsL]) (by decide) ?_
      simp [go_sem]
      simp [go_sem, hl]
      refine ⟨by kernel_rfl, ?_⟩
      simp [go_sem]
      unfold fieldB; simp [hl]
  · by_cases z1 : 1 ≤ z
    · have z3 : ¬ z ≤ 3 := fun h => hz ⟨z1, h⟩
      simp [go_sem, z1, z3]
      refine ⟨by kernel_rfl, ?_⟩
      simp [go_sem]
      unfold fieldB; rw [decide_eq_false hz]; simp
    · simp [go_sem, z1]
      refine ⟨by kernel_rfl, ?_⟩
      simp [go_sem]
      unfold fieldB; rw [decide_eq_false hz]; simp
def vecB (z : Int) (y : List Int) : Bool := decide ((y.length : Int) = z) && numsB y
theorem isVector_c (z : Int) (n : Nat) (cs : List AV) (y : List Int) (hl : y.length ≤ 9223372036854775807) :
    Con Try.prog 44 [.agg [.int z, .sl n cs], .sl y.length (avs y)] (.bool (vecB z y)) := by
  refine con_of_vc Try.mixed ⟨5, [], [], []⟩ Try.func44 (by decide) rfl (by simp) (by decide) (by simp [freshOK, freshL, go_sem]) ?_
  rw [Try.ntmps44]
  simp [go_sem]
  refine ⟨by kernel_rfl, ?_⟩
  refine CallD.of (length_c _ _ hl) (by simp [roots, rootsL]) (by decide) ?_
  simp [go_sem]
  unfold vecB
  by_cases h : (y.length : Int) = z
  · simp [go_sem, h]
    refine CallD.of (areNumbers_c y hl) (by simp [roots, rootsL]) (by decide) ?_
    simp [go_sem]
    refine ⟨by kernel_rfl, ?_⟩
    simp [go_sem]
  · simp [go_sem, h]
    refine ⟨by kernel_rfl, ?_⟩
    simp [go_sem]
end Go.Proofs.Ytoeikpioonlmfaa


namespace Go.Proofs.Ytoeikpioonlmfaa
open Go.Abs
set_option linter.unusedSectionVars false
set_option linter.unusedVariables false
set_option linter.unusedSimpArgs false
set_option maxHeartbeats 1000000
end Go.Proofs.Ytoeikpioonlmfaa


namespace Go.Proofs.Ytoeikpioonlmfaa
open Go.Abs
set_option linter.unusedSectionVars false
set_option linter.unusedVariables false
set_option linter.unusedSimpArgs false
set_option maxHeartbeats 1000000
theorem ltL_irr : ∀ a : List Int, ltL a a = false
  | [] => rfl
  | x :: a => by simp [ltL, ltL_irr a]
theorem ltL_trans : ∀ {a b c : List Int}, ltL a b = true → ltL b c = true → ltL a c = true
  | _, [], _, h, _ => by simp [ltL] at h
  | _, _ :: _, [], _, h => by simp [ltL] at h
  | [], _ :: _, _ :: _, _, _ => rfl
  | x :: a, y :: b, z :: c, h1, h2 => by
    simp only [ltL] at h1 h2 ⊢
    split at h1
    · rename_i e; subst e
      split at h2
      · rename_i e; subst e; rw [if_pos rfl]; exact ltL_trans h1 h2
      · rename_i e; rw [if_neg e]; exact h2
    · rename_i e1
      simp only [decide_eq_true_eq] at h1
      split at h2
      · rename_i e; subst e; rw [if_neg e1]; simpa using h1
      · rename_i e
        simp only [decide_eq_true_eq] at h2
        rw [if_neg (by omega)]; simp; omega
end Go.Proofs.Ytoeikpioonlmfaa


namespace Go.Proofs.Ytoeikpioonlmfaa
open Go.Abs
set_option linter.unusedSectionVars false
set_option linter.unusedVariables false
set_option linter.unusedSimpArgs false
set_option maxHeartbeats 1000000
end Go.Proofs.Ytoeikpioonlmfaa


namespace Go.Proofs.Ytoeikpioonlmfaa
set_option linter.unusedSectionVars false
set_option linter.unusedVariables false
set_option linter.unusedSimpArgs false
end Go.Proofs.Ytoeikpioonlmfaa


namespace Go.Proofs.Ytoeikpioonlmfaa
open Go.Abs
set_option linter.unusedSectionVars false
set_option linter.unusedVariables false
set_option linter.unusedSimpArgs false
set_option maxHeartbeats 1000000
end Go.Proofs.Ytoeikpioonlmfaa


namespace Go.Proofs.Ytoeikpioonlmfaa
open Go.Abs
set_option linter.unusedSectionVars false
set_option linter.unusedVariables false
set_option linter.unusedSimpArgs false
set_option maxHeartbeats 1000000
structure VOk (n : Nat) (m : Mon) : Prop where
  num : isN m.1
  len : m.2.length = n
  pw : ∀ x ∈ m.2, 0 ≤ x ∧ x ≤ 3
end Go.Proofs.Ytoeikpioonlmfaa


namespace Go.Proofs.Ytoeikpioonlmfaa
open Go.Abs
set_option linter.unusedSectionVars false
set_option linter.unusedVariables false
set_option linter.unusedSimpArgs false
set_option maxHeartbeats 1000000
end Go.Proofs.Ytoeikpioonlmfaa


namespace Go.Proofs.Ytoeikpioonlmfaa
open Go.Abs
set_option linter.unusedSectionVars false
set_option linter.unusedVariables false
set_option linter.unusedSimpArgs false
set_option maxHeartbeats 1000000
end Go.Proofs.Ytoeikpioonlmfaa


namespace Go.Proofs.Ytoeikpioonlmfaa
open Go.Abs
set_option linter.unusedSectionVars false
set_option linter.unusedVariables false
set_option linter.unusedSimpArgs false
set_option maxHeartbeats 1000000
end Go.Proofs.Ytoeikpioonlmfaa


namespace Go.Proofs.Ytoeikpioonlmfaa
open Go.Abs
set_option linter.unusedSectionVars false
set_option linter.unusedVariables false
set_option linter.unusedSimpArgs false
set_option maxHeartbeats 1000000
def NN (k : Key) : Prop := 0 ≤ k.1 ∧ 0 ≤ k.2.1 ∧ 0 ≤ k.2.2
def Eqv (C D : Key → Int) : Prop := ∀ k, NN k → C k % 10007 = D k % 10007
theorem Eqv.refl (C : Key → Int) : Eqv C C := fun _ _ => rfl
theorem Eqv.symm {C D : Key → Int} (h : Eqv C D) : Eqv D C := fun k hk => (h k hk).symm
theorem Eqv.trans {C D E : Key → Int} (h : Eqv C D) (h2 : Eqv D E) : Eqv C E := fun k hk => (h k hk).trans (h2 k hk)
end Go.Proofs.Ytoeikpioonlmfaa


namespace Go.Proofs.Ytoeikpioonlmfaa
open Go.Abs
set_option linter.unusedSectionVars false
set_option linter.unusedVariables false
set_option linter.unusedSimpArgs false
set_option maxHeartbeats 1000000
end Go.Proofs.Ytoeikpioonlmfaa


namespace Go.Proofs.Ytoeikpioonlmfaa
open Go.Abs
set_option linter.unusedSectionVars false
set_option linter.unusedVariables false
set_option linter.unusedSimpArgs false
set_option maxHeartbeats 1000000
theorem l01Same_c (a b : List Int) (ha : a.length ≤ 9223372036854775807) : Con Try.prog 29 [.sl a.length (avs a), .sl b.length (avs b)] (.bool (decide (a = b))) := by
  refine con_of_vc Try.mixed ⟨6, [], [], []⟩ Try.func29 (by decide) rfl (by simp) (by decide) (by simp [freshOK, freshL, go_sem]) ?_
  rw [Try.ntmps29]
  simp [go_sem]
  refine ⟨fun h => ?_, fun h => ?_⟩ <;> simp at h <;> simp [go_sem]
  · rintro rfl; omega
  have hl : a.length = b.length := by omega
  refine loop_inv (4 :: 5 :: List.range' 11 16) (fun i : Nat => [(5, .int i)]) (fun i => i ≤ a.length ∧ a.take i = b.take i) (fun i => a.length - i) 0 (by simp) (by simp [go_sem]) (by simp [go_sem]) ?_
  intro i hi
  simp [go_sem]
  refine ⟨fun h => ?_, fun h => ?_⟩ <;> simp at h
  · have h2 : i < b.length := by omega
    simp [go_sem, avs_drop h, avs_drop h2]
    refine ⟨by kernel_rfl, ⟨h, by rintro rfl; simp at h⟩, ⟨h2, by rintro rfl; simp at h2⟩, ?_⟩
    refine ⟨by kernel_rfl, ?_⟩
    simp [go_sem]
    refine ⟨fun h3 => ?_, fun h3 => ?_⟩ <;> simp at h3 <;> simp [go_sem]
    · rintro rfl; exact h3 rfl
    · refine ⟨by omega, i + 1, ⟨by omega, ?_⟩, by omega, Off_reset _ _ _ (by simp), by omega⟩
      rw [List.take_add_one, List.take_add_one, hi.2]
      rw [List.getElem?_eq_getElem h, List.getElem?_eq_getElem h2] at h3 ⊢
      simp only [Option.getD_some] at h3
      rw [h3]
  · simp [go_sem]
    have e : i = a.length := by omega
    subst e
    have := hi.2
    rw [List.take_length, hl, List.take_length] at this
    exact this
end Go.Proofs.Ytoeikpioonlmfaa


namespace Go.Proofs.Ytoeikpioonlmfaa
set_option linter.unusedSectionVars false
set_option linter.unusedVariables false
set_option linter.unusedSimpArgs false
class CR (α : Type) extends Add α, Mul α where
  ofI : Int → α
  addC : ∀ a b : α, a + b = b + a
  addA : ∀ a b c : α, a + b + c = a + (b + c)
  add0 : ∀ a : α, a + ofI 0 = a
  mulC : ∀ a b : α, a * b = b * a
  mulA : ∀ a b c : α, a * b * c = a * (b * c)
  mul1 : ∀ a : α, a * ofI 1 = a
  mulD : ∀ a b c : α, a * (b + c) = a * b + a * c
  mul0 : ∀ a : α, a * ofI 0 = ofI 0
  ofAdd : ∀ a b : Int, ofI (a + b) = ofI a + ofI b
  ofMul : ∀ a b : Int, ofI (a * b) = ofI a * ofI b
namespace CR
section
variable {α : Type} [CR α]
instance : Std.Associative (α := α) (· + ·) := ⟨addA⟩
instance : Std.Commutative (α := α) (· + ·) := ⟨addC⟩
instance : Std.Associative (α := α) (· * ·) := ⟨mulA⟩
instance : Std.Commutative (α := α) (· * ·) := ⟨mulC⟩
theorem zadd (a : α) : ofI 0 + a = a := by rw [addC, add0]
theorem zmul (a : α) : ofI 0 * a = ofI 0 := by rw [mulC, mul0]
end
end CR
open CR
instance : CR Int where
  ofI := id
  addC := Int.add_comm
  addA := Int.add_assoc
  add0 := Int.add_zero
  mulC := Int.mul_comm
  mulA := Int.mul_assoc
  mul1 := Int.mul_one
  mulD := Int.mul_add
  mul0 := Int.mul_zero
  ofAdd := fun _ _ => rfl
  ofMul := fun _ _ => rfl
abbrev Ser (α : Type) := Nat → α
def sh {α : Type} (a : Ser α) : Ser α := fun n => a (n + 1)
def cmul {α : Type} [CR α] : Nat → Ser α → Ser α → α
  | 0, a, b => a 0 * b 0
  | n + 1, a, b => a 0 * b (n + 1) + cmul n (sh a) b
section
variable {α : Type} [CR α]
theorem cmul_add (n : Nat) : ∀ (a b c : Ser α), cmul n a (fun i => b i + c i) = cmul n a b + cmul n a c := by
  induction n with
  | zero => intro a b c; exact mulD _ _ _
  | succ n ih => intro a b c; simp only [cmul, ih, mulD]; ac_rfl
theorem cmul_last (n : Nat) : ∀ (a b : Ser α), cmul (n + 1) a b = cmul n a (sh b) + a (n + 1) * b 0 := by
  induction n with
  | zero => intro a b; rfl
  | succ n ih =>
    intro a b
    rw [cmul, ih, cmul]
    show a 0 * b (n + 1 + 1) + (cmul n (sh a) (sh b) + a (n + 1 + 1) * b 0) = a 0 * b (n + 1 + 1) + cmul n (sh a) (sh b) + a (n + 1 + 1) * b 0
    ac_rfl
theorem cmul_comm (n : Nat) : ∀ (a b : Ser α), cmul n a b = cmul n b a := by
  induction n with
  | zero => intro a b; exact mulC _ _
  | succ n ih => intro a b; rw [cmul, cmul_last, ih, mulC, addC]
theorem cmul_smul (c : α) (n : Nat) : ∀ (a b : Ser α), cmul n (fun i => c * a i) b = c * cmul n a b := by
  induction n with
  | zero => intro a b; exact mulA _ _ _
  | succ n ih =>
    intro a b
    have := ih (sh a) b
    simp only [cmul, mulD]
    rw [← this, mulA]; rfl
theorem cmul_addl (n : Nat) (a b c : Ser α) : cmul n (fun i => a i + b i) c = cmul n a c + cmul n b c := by
  rw [cmul_comm n (fun i => a i + b i) c, cmul_add, cmul_comm n c a, cmul_comm n c b]
theorem cmul_assoc (n : Nat) : ∀ (a b c : Ser α), cmul n (fun i => cmul i a b) c = cmul n a (fun i => cmul i b c) := by
  induction n with
  | zero => intro a b c; exact mulA _ _ _
  | succ n ih =>
    intro a b c
    have e : sh (fun i => cmul i a b) = fun i => a 0 * sh b i + cmul i (sh a) b := rfl
    simp only [cmul]
    rw [e, cmul_addl, cmul_smul, ih, mulD]
    show a 0 * b 0 * c (n + 1) + _ = _
    rw [mulA]; ac_rfl
def sOf (k : Int) : Ser α := fun n => if n = 0 then ofI k else ofI 0
theorem cmul_of (k : Int) : ∀ (n : Nat) (a : Ser α), cmul n a (sOf k) = a n * ofI k := by
  intro n
  induction n with
  | zero => intro a; rfl
  | succ n ih =>
    intro a
    rw [cmul, ih]
    show a 0 * ofI 0 + a (n + 1) * ofI k = _
    rw [mul0, zadd]
instance : CR (Ser α) where
  add := fun a b n => a n + b n
  mul := fun a b n => cmul n a b
  ofI := sOf
  addC := fun a b => funext fun n => addC _ _
  addA := fun a b c => funext fun n => addA _ _ _
  add0 := fun a => funext fun n => by show a n + (if n = 0 then ofI 0 else ofI 0) = a n; rw [ite_self, add0]
  mulC := fun a b => funext fun n => cmul_comm n a b
  mulA := fun a b c => funext fun n => cmul_assoc n a b c
  mul1 := fun a => funext fun n => by show cmul n a (sOf 1) = a n; rw [cmul_of, mul1]
  mulD := fun a b c => funext fun n => cmul_add n a b c
  mul0 := fun a => funext fun n => by show cmul n a (sOf 0) = if n = 0 then ofI 0 else ofI 0; rw [cmul_of, mul0, ite_self]
  ofAdd := fun a b => funext fun n => by
    show (if n = 0 then (ofI (a + b) : α) else ofI 0) = (if n = 0 then ofI a else ofI 0) + (if n = 0 then ofI b else ofI 0)
    split
    · exact ofAdd _ _
    · rw [add0]
  ofMul := fun a b => funext fun n => by
    show (if n = 0 then (ofI (a * b) : α) else ofI 0) = cmul n (sOf a) (sOf b)
    rw [cmul_of]
    show (if n = 0 then (ofI (a * b) : α) else ofI 0) = (if n = 0 then ofI a else ofI 0) * ofI b
    split
    · exact ofMul _ _
    · rw [zmul]
end
structure Cg (α : Type) [CR α] where
  r : α → α → Prop
  refl : ∀ a, r a a
  symm : ∀ {a b}, r a b → r b a
  trans : ∀ {a b c}, r a b → r b c → r a c
  add : ∀ {a b c d}, r a b → r c d → r (a + c) (b + d)
  mul : ∀ {a b c d}, r a b → r c d → r (a * c) (b * d)
  of : ∀ {a b : Int}, a % 10007 = b % 10007 → r (ofI a) (ofI b)
section
variable {α : Type} [CR α]
end
end Go.Proofs.Ytoeikpioonlmfaa


namespace Go.Proofs.Ytoeikpioonlmfaa
open CR
set_option linter.unusedSectionVars false
set_option linter.unusedVariables false
set_option linter.unusedSimpArgs false
set_option maxHeartbeats 1000000
structure WOk (n : Nat) (B : Int) (m : Mon) : Prop where
  num : isN m.1
  len : m.2.length = n
  pw : ∀ x ∈ m.2, 0 ≤ x ∧ x ≤ B
theorem WOk.le {n : Nat} {B C : Int} {m : Mon} (h : WOk n B m) (hBC : B ≤ C) : WOk n C m := ⟨h.num, h.len, fun x hx => ⟨(h.pw x hx).1, Int.le_trans (h.pw x hx).2 hBC⟩⟩
section
variable {α : Type} [CR α]
def LOk (n : Nat) (L : List Mon) : Prop := ∀ m ∈ L, m.2.length = n ∧ ∀ x ∈ m.2, 0 ≤ x
theorem LOk.hd {n : Nat} {m : Mon} {L : List Mon} (h : LOk n (m :: L)) : m.2.length = n ∧ ∀ x ∈ m.2, 0 ≤ x := h m (by simp)
end
end Go.Proofs.Ytoeikpioonlmfaa


namespace Go.Proofs.Ytoeikpioonlmfaa
open Go.Abs
set_option linter.unusedSectionVars false
set_option linter.unusedVariables false
set_option linter.unusedSimpArgs false
set_option maxHeartbeats 1000000
end Go.Proofs.Ytoeikpioonlmfaa


namespace Go.Proofs.Ytoeikpioonlmfaa
open Go.Abs
set_option linter.unusedSectionVars false
set_option linter.unusedVariables false
set_option linter.unusedSimpArgs false
set_option maxHeartbeats 1000000
theorem omat_app (A C : List (List Int)) : omat (A ++ C) = omat A ++ omat C := by simp [omat]
theorem omat_one (r : List Int) : omat [r] = [.own 2 r.length (avs r)] := rfl
theorem omat_nil : omat [] = [] := rfl
end Go.Proofs.Ytoeikpioonlmfaa


namespace Go.Proofs.Ytoeikpioonlmfaa
open Go.Abs
set_option linter.unusedSectionVars false
set_option linter.unusedVariables false
set_option linter.unusedSimpArgs false
set_option maxHeartbeats 1000000
theorem szRs_ok : ∀ (A : List (List Int)) {left : Int}, 0 ≤ left → 0 ≤ szRs left A → (sumL A : Int) ≤ left ∧ szRs left A = left - sumL A ∧ ∀ r ∈ A, (r.length : Int) ≤ left
  | [], left, h0, h => by simp [szRs, sumL]; exact h0
  | r :: rs, left, h0, h => by
    rw [szRs] at h ⊢
    split at h
    · omega
    · rename_i hs
      have e : szR left r.length = left - r.length := by
        unfold szR at hs ⊢
        by_cases h1 : left - (r.length : Int) < 0
        · rw [if_pos h1] at hs; omega
        · rw [if_neg h1]
      rw [e] at hs h
      have := szRs_ok rs (by omega) h
      rw [if_neg (by rw [e]; exact hs), e]
      refine ⟨by simp [sumL]; omega, by simp [sumL]; omega, fun q hq => ?_⟩
      rcases List.mem_cons.1 hq with rfl | hq
      · omega
      · have := this.2.2 q hq; omega
theorem szM_ok {A : List (List Int)} {left : Int} (h0 : 0 ≤ left) (h : 0 ≤ szM left A) : (A.length : Int) + sumL A ≤ left ∧ szM left A = left - A.length - sumL A ∧ ∀ r ∈ A, (r.length : Int) ≤ left := by
  unfold szM at h ⊢
  split at h
  · omega
  · rename_i hs
    have e : szR left A.length = left - A.length := by
      unfold szR at hs ⊢
      by_cases h1 : left - (A.length : Int) < 0
      · rw [if_pos h1] at hs; omega
      · rw [if_neg h1]
    rw [e] at hs h
    rw [if_neg (by rw [e]; exact hs), e]
    have := szRs_ok A (by omega) h
    refine ⟨by omega, by omega, fun r hr => by have := this.2.2 r hr; omega⟩
def szT (A : List (List Int)) (B : List Int) (left : Int) : Int := if szM left A < 0 then -1 else szR (szM left A) B.length
theorem szTableau_c (A : List (List Int)) (B : List Int) (left : Int) (hA : A.length ≤ 9223372036854775807) (hr : ∀ r ∈ A, r.length ≤ 9223372036854775807) (hB : B.length ≤ 9223372036854775807) (h0 : 0 ≤ left) (h1 : left ≤ 9223372036854775807) :
    Con Try.prog 10 [.agg [.sl A.length (mat A), .sl B.length (avs B)], .int left] (.int (szT A B left)) := by
  refine con_of_vc Try.mixed ⟨5, [], [], []⟩ Try.func10 (by decide) rfl (by simp) (by decide) (by simp [freshOK, freshL, go_sem]) ?_
  rw [Try.ntmps10]
  simp [go_sem]
  refine CallVC.of (szInt64SS_c A left hA hr h0 h1) (by decide) ?_
  simp [go_sem]
  unfold szT
  by_cases h : szM left A < 0
  · simp [go_sem, h]
  · have := szM_ok h0 (by omega : 0 ≤ szM left A)
    simp [go_sem, h]
    refine CallVC.of (szInt64S_c B.length _ (szM left A) hB (by omega) (by omega)) (by decide) ?_
    simp [go_sem]
    have h3 := szR_ge (szM left A) B.length
    by_cases h2 : szR (szM left A) B.length < 0
    · simp [go_sem, h2]
      omega
    · simp [go_sem, h2]
theorem szT_ok {A : List (List Int)} {B : List Int} {left : Int} (h0 : 0 ≤ left) (h : 0 ≤ szT A B left) : (A.length : Int) + sumL A + B.length ≤ left ∧ ∀ r ∈ A, (r.length : Int) ≤ left := by
  unfold szT at h
  split at h
  · omega
  · rename_i h1
    have := szM_ok h0 (by omega : 0 ≤ szM left A)
    unfold szR at h
    split at h
    · omega
    · exact ⟨by omega, this.2.2⟩
end Go.Proofs.Ytoeikpioonlmfaa


namespace Go.Proofs.Ytoeikpioonlmfaa
open Go.Abs
set_option linter.unusedSectionVars false
set_option linter.unusedVariables false
set_option linter.unusedSimpArgs false
set_option maxHeartbeats 4000000
end Go.Proofs.Ytoeikpioonlmfaa


namespace Go.Proofs.Ytoeikpioonlmfaa
open Go.Abs
set_option linter.unusedSectionVars false
set_option linter.unusedVariables false
set_option linter.unusedSimpArgs false
set_option maxHeartbeats 1000000
end Go.Proofs.Ytoeikpioonlmfaa


namespace Go.Proofs.Ytoeikpioonlmfaa
open Go.Abs
set_option linter.unusedSectionVars false
set_option linter.unusedVariables false
set_option linter.unusedSimpArgs false
set_option maxHeartbeats 1000000
theorem memD {α : Type} {l : List α} {i : Nat} (d : α) (h : i < l.length) : l[i]?.getD d ∈ l := by simp [h]
end Go.Proofs.Ytoeikpioonlmfaa


namespace Go.Proofs.Ytoeikpioonlmfaa
open Go.Abs
set_option linter.unusedSectionVars false
set_option linter.unusedVariables false
set_option linter.unusedSimpArgs false
set_option maxHeartbeats 1000000
end Go.Proofs.Ytoeikpioonlmfaa


namespace Go.Proofs.Ytoeikpioonlmfaa
open Go.Abs
set_option linter.unusedSectionVars false
set_option linter.unusedVariables false
set_option linter.unusedSimpArgs false
set_option maxHeartbeats 1000000
end Go.Proofs.Ytoeikpioonlmfaa


namespace Go.Proofs.Ytoeikpioonlmfaa
open Go.Abs Go.Shelf Go.Sort
set_option linter.unusedSectionVars false
set_option linter.unusedVariables false
set_option linter.unusedSimpArgs false
set_option maxHeartbeats 1000000
theorem ltL_tot : ∀ {a b : List Int}, a ≠ b → ltL a b = false → ltL b a = true
  | [], [], h, _ => absurd rfl h
  | [], y :: b, _, h => by simp [ltL] at h
  | x :: a, [], _, _ => by simp [ltL]
  | x :: a, y :: b, h, h2 => by
    simp only [ltL] at h2 ⊢
    by_cases e : x = y
    · subst e
      simp only [if_true] at h2 ⊢
      exact ltL_tot (fun e => h (by rw [e])) h2
    · rw [if_neg e] at h2
      rw [if_neg (fun x => e x.symm)]
      simp at h2 ⊢
      omega
theorem cmpL_neg (a b : List Int) : decide (cmpL a b < 0) = ltL a b := by
  have h := cmpL_lt a b
  cases hl : ltL a b <;> rw [hl] at h <;> simp at h ⊢ <;> omega
end Go.Proofs.Ytoeikpioonlmfaa


namespace Go.Proofs.Ytoeikpioonlmfaa
open Go.Abs
set_option linter.unusedSectionVars false
set_option linter.unusedVariables false
set_option linter.unusedSimpArgs false
set_option maxHeartbeats 1000000
@[simp] theorem mat_frz (A : List (List Int)) : frzL (mat A) = mat A := by
  induction A with
  | nil => rfl
  | cons r A ih => simp only [mat, List.map_cons, frzL] at ih ⊢; rw [ih]; rfl
end Go.Proofs.Ytoeikpioonlmfaa


namespace Go.Proofs.Ytoeikpioonlmfaa
open Go.Abs
set_option linter.unusedSectionVars false
set_option linter.unusedVariables false
set_option linter.unusedSimpArgs false
set_option maxHeartbeats 4000000
end Go.Proofs.Ytoeikpioonlmfaa


namespace Go.Proofs.Ytoeikpioonlmfaa
set_option linter.unusedSectionVars false
set_option linter.unusedVariables false
set_option linter.unusedSimpArgs false
def okB (t : List Int) (j : Nat) : Bool := decide (1 ≤ t[j]?.getD 0) && decide (t[j]?.getD 0 ≤ t[j - 1]?.getD 0 + 1)
def lv0 (t : List Int) : Bool := decide (0 < t.length) && decide (t[0]?.getD 0 = 0) && (List.range t.length).all (fun j => decide (j = 0) || okB t j)
def lvB (t : List Int) : Bool := lv0 t && decide (t.length ≤ 8)
theorem lv0_no {t : List Int} {j : Nat} (hj : j < t.length) (h0 : 0 < j) (h : okB t j = false) : lv0 t = false := by
  unfold lv0
  have : (List.range t.length).all (fun j => decide (j = 0) || okB t j) = false := by
    rw [List.all_eq_false]; exact ⟨j, by simpa using hj, by simp [h]; omega⟩
  rw [this]; simp
theorem lv0_t0 {t : List Int} (h : t[0]?.getD 0 ≠ 0) : lv0 t = false := by
  unfold lv0; rw [decide_eq_false h]; simp
theorem lv0_yes {t : List Int} (h1 : 0 < t.length) (h2 : t[0]?.getD 0 = 0) (h : ∀ j, 0 < j → j < t.length → okB t j = true) : lv0 t = true := by
  unfold lv0
  have : (List.range t.length).all (fun j => decide (j = 0) || okB t j) = true := by
    rw [List.all_eq_true]; intro j hj
    by_cases e : j = 0
    · simp [e]
    · simp [h j (by omega) (by simpa using hj)]
  rw [this, decide_eq_true h1, decide_eq_true h2]; rfl
theorem ok_le {t : List Int} {i : Nat} (h0 : t[0]?.getD 0 = 0) (h : ∀ j, 0 < j → j < i → okB t j = true) : ∀ j, j < i → 0 ≤ t[j]?.getD 0 ∧ t[j]?.getD 0 ≤ j
  | 0, _ => by omega
  | j + 1, hj => by
    have := ok_le h0 h j (by omega)
    have h2 := h (j + 1) (by omega) hj
    unfold okB at h2
    simp only [Nat.add_sub_cancel, Bool.and_eq_true, decide_eq_true_eq] at h2
    omega
def brStep (out : List (List Int)) (x : Int) : List (List Int) :=
  let o := if x = 1 then out ++ [[]] else out
  o.set (o.length - 1) (o[o.length - 1]?.getD [] ++ [x - 1])
def brGo (out : List (List Int)) : List Int → List (List Int)
  | [] => out
  | x :: l => brGo (brStep out x) l
def brs (t : List Int) : List (List Int) := brGo [] (t.drop 1)
theorem brGo_app (out : List (List Int)) (l r : List Int) : brGo out (l ++ r) = brGo (brGo out l) r := by
  induction l generalizing out with
  | nil => rfl
  | cons x l ih => exact ih _
theorem brs_take {t : List Int} {i : Nat} (h1 : 1 ≤ i) (h : i < t.length) : brs (t.take (i + 1)) = brStep (brs (t.take i)) (t[i]?.getD 0) := by
  unfold brs
  have e : (t.take (i + 1)).drop 1 = (t.take i).drop 1 ++ [t[i]?.getD 0] := by
    rw [List.take_add_one, List.getElem?_eq_getElem h, Option.toList_some, List.drop_append_of_le_length (by simp; omega)]; rfl
  rw [e, brGo_app]; rfl
def Lv (t : List Int) : Prop := 0 < t.length ∧ t[0]?.getD 0 = 0 ∧ ∀ j, 0 < j → j < t.length → 1 ≤ t[j]?.getD 0 ∧ t[j]?.getD 0 ≤ t[j - 1]?.getD 0 + 1
theorem lv0_Lv {t : List Int} (h : lv0 t = true) : Lv t := by
  unfold lv0 at h
  simp only [Bool.and_eq_true, decide_eq_true_eq, List.all_eq_true] at h
  refine ⟨h.1.1, h.1.2, fun j h1 h2 => ?_⟩
  have := h.2 j (by simpa using h2)
  rw [decide_eq_false (by omega)] at this
  unfold okB at this
  simpa using this
theorem Lv.le {t : List Int} (h : Lv t) : ∀ j, j < t.length → 0 ≤ t[j]?.getD 0 ∧ t[j]?.getD 0 ≤ j
  | 0, _ => by rw [h.2.1]; omega
  | j + 1, hj => by
    have h1 := h.le j (by omega)
    have h2 := h.2.2 (j + 1) (by omega) hj
    rw [Nat.add_sub_cancel] at h2
    omega
theorem Lv.snoc {t : List Int} {x : Int} (h : Lv t) (h1 : 1 ≤ x) (h2 : x ≤ t[t.length - 1]?.getD 0 + 1) : Lv (t ++ [x]) := by
  obtain ⟨k1, k2, k3⟩ := h
  refine ⟨by simp, by rw [List.getElem?_append_left k1]; exact k2, fun j hj hl => ?_⟩
  simp at hl
  by_cases e : j = t.length
  · subst e
    rw [List.getElem?_append_right (by omega), List.getElem?_append_left (by omega)]
    simp; exact ⟨h1, h2⟩
  · rw [List.getElem?_append_left (by omega), List.getElem?_append_left (by omega)]
    exact k3 j hj (by omega)
theorem Lv_zero : Lv [0] := ⟨by simp, rfl, fun j h1 h2 => by simp at h2; omega⟩
def sumN : List (List Int) → Nat
  | [] => 0
  | b :: l => b.length + sumN l
theorem sumN_app (a b : List (List Int)) : sumN (a ++ b) = sumN a + sumN b := by
  induction a with
  | nil => simp [sumN]
  | cons x a ih => simp [sumN, ih]; omega
theorem sumN_mem {l : List (List Int)} {b : List Int} (h : b ∈ l) : b.length ≤ sumN l := by
  induction l with
  | nil => simp at h
  | cons x l ih =>
    rw [sumN]
    rcases List.mem_cons.1 h with rfl | h
    · omega
    · have := ih h; omega
theorem len_sumN {l : List (List Int)} (h : ∀ b ∈ l, 0 < b.length) : l.length ≤ sumN l := by
  induction l with
  | nil => simp
  | cons x l ih =>
    have h1 := h x (by simp)
    have h2 := ih (fun b hb => h b (by simp [hb]))
    rw [sumN]; simp; omega
def BrI (out : List (List Int)) (p : Int) (n : Nat) : Prop :=
  (∀ b ∈ out, Lv b) ∧ sumN out = n ∧ ((out = [] ∧ p = 0) ∨ ∃ i l, out = i ++ [l] ∧ l[l.length - 1]?.getD 0 = p - 1)
theorem brStep_i {out : List (List Int)} {p x : Int} {n : Nat} (h : BrI out p n) (h1 : 1 ≤ x) (h2 : x ≤ p + 1) : BrI (brStep out x) x (n + 1) ∧ (x ≠ 1 → out ≠ []) := by
  obtain ⟨k1, k2, k3⟩ := h
  by_cases hx : x = 1
  · subst hx
    have e : brStep out 1 = out ++ [[0]] := by
      unfold brStep
      simp only [if_true]
      rw [List.set_append_right _ _ (by simp), List.getElem?_append_right (by simp)]
      simp
    rw [e]
    refine ⟨⟨fun b hb => ?_, by rw [sumN_app, k2]; rfl, .inr ⟨out, [0], rfl, rfl⟩⟩, by simp⟩
    rcases List.mem_append.1 hb with hb | hb
    · exact k1 b hb
    · simp at hb; subst hb; exact Lv_zero
  · rcases k3 with ⟨rfl, rfl⟩ | ⟨i, l, rfl, hl⟩
    · omega
    · have e : brStep (i ++ [l]) x = i ++ [l ++ [x - 1]] := by
        unfold brStep
        simp only [if_neg hx]
        rw [List.set_append_right _ _ (by simp), List.getElem?_append_right (by simp)]
        simp
      rw [e]
      have hLl := k1 l (by simp)
      refine ⟨⟨fun b hb => ?_, ?_, .inr ⟨i, _, rfl, by simp⟩⟩, by simp⟩
      · rcases List.mem_append.1 hb with hb | hb
        · exact k1 b (by simp [hb])
        · simp at hb; subst hb
          exact hLl.snoc (by omega) (by rw [hl]; omega)
      · rw [sumN_app] at k2 ⊢
        simp [sumN] at k2 ⊢; omega
theorem brs_i {t : List Int} (h : Lv t) : ∀ i, 1 ≤ i → i ≤ t.length → BrI (brs (t.take i)) (t[i - 1]?.getD 0) (i - 1)
  | 1, _, _ => by
    have e : brs (t.take 1) = [] := by
      unfold brs
      cases t with
      | nil => rfl
      | cons a t => rfl
    rw [e]
    refine ⟨by simp, rfl, .inl ⟨rfl, ?_⟩⟩
    simpa using h.2.1
  | i + 2, _, hl => by
    have ih := brs_i h (i + 1) (by omega) (by omega)
    have hb := h.2.2 (i + 1) (by omega) (by omega)
    rw [brs_take (by omega) (by omega)]
    exact (brStep_i ih hb.1 hb.2).1
theorem brs_ne {t : List Int} (h : Lv t) {i : Nat} (h1 : 1 ≤ i) (hl : i < t.length) (hx : t[i]?.getD 0 ≠ 1) : brs (t.take i) ≠ [] := by
  have ih := brs_i h i h1 (by omega)
  have hb := h.2.2 i (by omega) hl
  exact (brStep_i ih hb.1 hb.2).2 hx
theorem brs_ok {t : List Int} (h : Lv t) {b : List Int} (hb : b ∈ brs t) : Lv b ∧ b.length < t.length := by
  have hl := h.1
  have := brs_i h t.length (by omega) (by omega)
  rw [List.take_length] at this
  obtain ⟨k1, k2, _⟩ := this
  have := sumN_mem hb
  exact ⟨k1 b hb, by omega⟩
theorem brs_many {t : List Int} (h : Lv t) {i : Nat} (h1 : 1 ≤ i) (hl : i ≤ t.length) : (brs (t.take i)).length < i := by
  obtain ⟨k1, k2, _⟩ := brs_i h i h1 hl
  have := len_sumN (fun b hb => (k1 b hb).1)
  omega
end Go.Proofs.Ytoeikpioonlmfaa


namespace Go.Proofs.Ytoeikpioonlmfaa
open Go.Abs
set_option linter.unusedSectionVars false
set_option linter.unusedVariables false
set_option linter.unusedSimpArgs false
set_option maxHeartbeats 4000000
set_option maxRecDepth 100000 in
theorem l03Is_c (t : List Int) (hl : t.length ≤ 1048576) : Con Try.prog 28 [.sl t.length (avs t)] (.bool (lvB t)) := by
  by_cases h0 : t[0]?.getD 0 = 0
  · refine con_of_vc Try.mixed ⟨4, [], [], []⟩ Try.func28 (by decide) rfl (by simp) (by decide) (by simp [freshOK, freshL, go_sem]) ?_
    rw [Try.ntmps28]
    simp [go_sem]
    refine loop_inv (List.range' 2 20) (fun i : Nat => [(3, .int i)]) (fun i => 1 ≤ i ∧ (i ≤ t.length ∨ i = 1) ∧ ∀ j, 0 < j → j < i → okB t j = true) (fun i => t.length - i) 1 (by simp; omega) (by simp [go_sem]) (by simp [go_sem]) ?_
    rintro i ⟨hi1, hi, hp⟩
    simp [go_sem]
    refine ⟨fun h => ?_, fun h => ?_⟩ <;> simp at h
    · have hif := h
      have ek : (i : Int) - 1 = ((i - 1 : Nat) : Int) := by omega
      have hk : i - 1 < t.length := by omega
      have hle := ok_le h0 hp (i - 1) (by omega)
      have hok : okB t i = (decide (1 ≤ t[i]?.getD 0) && decide (t[i]?.getD 0 ≤ t[i - 1]?.getD 0 + 1)) := rfl
      simp [go_sem, avs_drop hif, ek, avs_drop hk]
      refine ⟨by kernel_rfl, ⟨hif, by rintro rfl; simp at hif⟩, by omega, ⟨hk, by rintro rfl; simp at hif⟩, by omega, ?_⟩
      have cI := l01In_c (t[i]?.getD 0) 1 (t[i - 1]?.getD 0 + 1)
      rw [← hok] at cI
      cases hb : okB t i with
      | true =>
        rw [hb] at cI
        refine CallD.of (cI) (by simp [roots, rootsL]) (by decide) ?_
        simp [go_sem]
        refine ⟨by kernel_rfl, ?_⟩
        simp [go_sem]
        refine ⟨by omega, i + 1, ⟨by omega, by omega, fun j h1 h2 => ?_⟩, by omega, Off_reset _ _ _ (by simp), by omega⟩
        by_cases e : j = i
        · rw [e]; exact hb
        · exact hp j h1 (by omega)
      | false =>
        rw [hb] at cI
        refine CallD.of (cI) (by simp [roots, rootsL]) (by decide) ?_
        simp [go_sem]
        refine ⟨by kernel_rfl, ?_⟩
        simp [go_sem]
        unfold lvB; rw [lv0_no hif (by omega) hb]; rfl
    · simp [go_sem]
      by_cases hz : 0 < t.length
      · have hy : lv0 t = true := lv0_yes hz h0 (fun j h1 h2 => hp j h1 (by omega))
        by_cases h8 : t.length ≤ 8
        · have h8' : (t.length : Int) ≤ 8 := by omega
          simp [go_sem, hz, h8, h8', avs_drop hz, h0]
          refine ⟨fun e => by rw [e] at hz; simp at hz, ?_⟩
          have h00 : t[0] = 0 := by simpa [hz] using h0
          unfold lvB; rw [hy, decide_eq_true h8, h00]; rfl
        · have h8' : ¬ (t.length : Int) ≤ 8 := by omega
          simp [go_sem, hz, h8, h8']
          unfold lvB; rw [decide_eq_false h8]; simp
      · simp [go_sem, hz]
        unfold lvB lv0; rw [decide_eq_false hz]; rfl
  · have hno : lvB t = false := by unfold lvB; rw [lv0_t0 h0]; rfl
    rw [hno]
    refine con_of_vc Try.mixed ⟨4, [], [], [999999]⟩ Try.func28 (by decide) rfl (by simp) (by decide) (by simp [freshOK, freshL, go_sem]) ?_
    rw [Try.ntmps28]
    simp [go_sem]
    refine loop_inv (List.range' 2 20) (fun i : Nat => [(3, .int i)]) (fun i => 1 ≤ i ∧ (i ≤ t.length ∨ i = 1)) (fun i => t.length - i) 1 (by simp) (by simp [go_sem]) (by simp [go_sem]) ?_
    rintro i ⟨hi1, hi⟩
    simp [go_sem]
    refine ⟨fun h => ?_, fun h => ?_⟩ <;> simp at h
    · have hif := h
      have hk : i - 1 < t.length := by omega
      have ek : IntKind.i64.wrap ((i : Int) - 1) = ((i - 1 : Nat) : Int) := by rw [wrap_in ((inK_i64 _).2 ⟨by omega, by omega⟩)]; omega
      have ek2 : IntKind.i64.wrap ((i : Int) + 1) = ((i + 1 : Nat) : Int) := by rw [wrap_in ((inK_i64 _).2 ⟨by omega, by omega⟩)]; omega
      have cI := l01In_c (t[i]?.getD 0) 1 (IntKind.i64.wrap (t[i - 1]?.getD 0 + 1))
      generalize (decide (1 ≤ t[i]?.getD 0) && decide (t[i]?.getD 0 ≤ IntKind.i64.wrap (t[i - 1]?.getD 0 + 1))) = b at cI
      simp [go_sem, avs_drop hif, ek, avs_drop hk]
      refine ⟨by kernel_rfl, ⟨hif, by rintro rfl; simp at hif⟩, ⟨hk, by rintro rfl; simp at hif⟩, ?_⟩
      cases b with
      | true =>
        refine CallD.of (cI) (by simp [roots, rootsL]) (by decide) ?_
        simp [go_sem]
        refine ⟨by kernel_rfl, ?_⟩
        simp [go_sem]
        simp [go_sem, ek2]
        exact ⟨i + 1, ⟨by omega, by omega⟩, by omega, Off_reset _ _ _ (by simp), by omega⟩
      | false =>
        refine CallD.of (cI) (by simp [roots, rootsL]) (by decide) ?_
        simp [go_sem]
        refine ⟨by kernel_rfl, ?_⟩
        simp [go_sem]
    · simp [go_sem]
      by_cases hz : 0 < t.length
      · have h00 : ¬ t[0] = 0 := by simpa [hz] using h0
        by_cases h8 : t.length ≤ 8
        · have h8' : (t.length : Int) ≤ 8 := by omega
          simp [go_sem, hz, h8, h8', avs_drop hz, h00]
          intro e; rw [e] at hz; simp at hz
        · have h8' : ¬ (t.length : Int) ≤ 8 := by omega
          simp [go_sem, hz, h8, h8']
      · simp [go_sem, hz]
set_option maxRecDepth 100000 in
theorem isLevelList_c (t : List Int) (hl : t.length ≤ 1048576) : Con Try.prog 51 [.sl t.length (avs t)] (.bool (lv0 t)) := by
  refine con_of_vc Try.mixed ⟨5, [], [], []⟩ Try.func51 (by decide) rfl (by simp) (by decide) (by simp [freshOK, freshL, go_sem]) ?_
  rw [Try.ntmps51]
  simp [go_sem]
  refine loop_inv (2 :: 3 :: 4 :: List.range' 7 27) (fun i : Nat => [(7, .int i)]) (fun i => i ≤ t.length ∧ (0 < i → t[0]?.getD 0 = 0) ∧ ∀ j, 0 < j → j < i → okB t j = true) (fun i => t.length - i) 0 (by simp) (by simp [go_sem]) (by simp [go_sem]) ?_
  rintro i ⟨hi, h0, hp⟩
  simp [go_sem]
  refine ⟨fun h => ?_, fun h => ?_⟩ <;> simp at h
  · have hif := h
    by_cases hz : i = 0
    · have q1 : (i = 0) = True := eq_true hz
      have q2 : ((i : Int) = 0) = True := eq_true (by omega)
      have q3 : (0 < i) = False := eq_false (by omega)
      have q4 : ((0 : Int) < i) = False := eq_false (by omega)
      have h0t : t[0]?.getD 0 = t[i]?.getD 0 := by rw [hz]
      by_cases h00 : t[i]?.getD 0 = 0
      · simp -implicitDefEqProofs [go_sem, q1, q2, q3, q4, avs_drop hif, h00]
        refine ⟨⟨hif, by rintro rfl; simp at hif⟩, ?_⟩
        exact ⟨by omega, i + 1, ⟨by omega, fun _ => by rw [h0t]; exact h00, fun j h1 h2 => by omega⟩, by omega, Off_reset _ _ _ (by simp), by omega⟩
      · simp -implicitDefEqProofs [go_sem, q1, q2, q3, q4, avs_drop hif, h00]
        refine ⟨⟨hif, by rintro rfl; simp at hif⟩, ?_⟩
        rw [lv0_t0 (by rw [h0t]; exact h00)]
    · have hz' : (0 : Int) < i := by omega
      have hz2 : ¬ (i : Int) = 0 := by omega
      have hzp : 0 < i := by omega
      have ek : (i : Int) - 1 = ((i - 1 : Nat) : Int) := by omega
      have hk : i - 1 < t.length := by omega
      have hle := ok_le (h0 hzp) hp (i - 1) (by omega)
      have cI := inRange_c (t[i]?.getD 0) 1 (t[i - 1]?.getD 0 + 1)
      have hok : okB t i = (decide (1 ≤ t[i]?.getD 0) && decide (t[i]?.getD 0 ≤ t[i - 1]?.getD 0 + 1)) := rfl
      rw [← hok] at cI
      simp [go_sem, avs_drop hif, hz, hz2, hzp, hz', ek, avs_drop hk]
      refine ⟨⟨hif, by rintro rfl; simp at hif⟩, by omega, ⟨hk, by rintro rfl; simp at hif⟩, ⟨by omega, by omega⟩, ?_⟩
      cases hb : okB t i with
      | true =>
        rw [hb] at cI
        refine CallVC.of (cI) (by decide) ?_
        simp [go_sem]
        refine ⟨by omega, i + 1, ⟨by omega, fun _ => h0 hzp, fun j h1 h2 => ?_⟩, by omega, Off_reset _ _ _ (by simp), by omega⟩
        by_cases e : j = i
        · rw [e]; exact hb
        · exact hp j h1 (by omega)
      | false =>
        rw [hb] at cI
        refine CallVC.of (cI) (by decide) ?_
        simp [go_sem]
        rw [lv0_no hif hzp hb]
  · simp [go_sem]
    by_cases hz : 0 < t.length
    · rw [lv0_yes hz (h0 (by omega)) (fun j h1 h2 => hp j h1 (by omega)), decide_eq_true hz]
    · unfold lv0; rw [decide_eq_false hz]; rfl
theorem IsLevels_c (t : List Int) (hl : t.length ≤ 1048576) : Con Try.prog 38 [.sl t.length (avs t)] (.bool (lvB t)) := by
  unfold lvB
  have cI := isLevelList_c t hl
  refine con_of_vc Try.mixed ⟨3, [], [], []⟩ Try.func38 (by decide) rfl (by simp) (by decide) (by simp [freshOK, freshL, go_sem]) ?_
  rw [Try.ntmps38]
  simp [go_sem]
  by_cases h8 : t.length ≤ 8
  · have h8' : (t.length : Int) ≤ 8 := by omega
    simp [go_sem, h8, h8']
    refine CallVC.of (cI) (by decide) ?_
    simp [go_sem]
  · have h8' : ¬ (t.length : Int) ≤ 8 := by omega
    simp [go_sem, h8, h8']
end Go.Proofs.Ytoeikpioonlmfaa


namespace Go.Proofs.Ytoeikpioonlmfaa
open Go.Abs
set_option linter.unusedSectionVars false
set_option linter.unusedVariables false
set_option linter.unusedSimpArgs false
set_option maxHeartbeats 4000000
theorem omat_set (A : List (List Int)) (k : Nat) (l : List Int) : (omat A).set k (.own 2 l.length (avs l)) = omat (A.set k l) := by
  simp [omat, List.map_set]
theorem omat_last {A : List (List Int)} (h : A ≠ []) : (omat A)[A.length - 1]? = some (.own 2 (A[A.length - 1]?.getD []).length (avs (A[A.length - 1]?.getD []))) := by
  have hl : A.length - 1 < A.length := by have := List.length_pos_iff.2 h; omega
  simp [omat, hl]
theorem brStep_one (A : List (List Int)) : brStep A 1 = A ++ [[0]] := by
  unfold brStep
  simp only [if_true]
  rw [List.set_append_right _ _ (by simp), List.getElem?_append_right (by simp)]
  simp
theorem brStep_more {A : List (List Int)} {x : Int} (h : x ≠ 1) : brStep A x = A.set (A.length - 1) (A[A.length - 1]?.getD [] ++ [x - 1]) := by
  unfold brStep; simp only [if_neg h]
set_option maxRecDepth 100000 in
theorem l03Parts_c (t : List Int) (hl : t.length ≤ 1048576) (ht : Lv t) : Con Try.prog 48 [.sl t.length (avs t)] (.own 22 (brs t).length (omat (brs t))) := by
  refine con_of_vc Try.mixed ⟨6, [], [], [1000812990015]⟩ Try.func48 (by decide) rfl (by simp) (by decide) (by simp [freshOK, freshL, go_sem]) ?_
  rw [Try.ntmps48]
  simp [go_sem]
  refine loop_inv (List.range' 3 36) (fun i : Nat => [(3, .own 22 (brs (t.take i)).length (omat (brs (t.take i)))), (4, .int i)]) (fun i => 1 ≤ i ∧ i ≤ t.length) (fun i => t.length - i) 1 (by have := ht.1; omega) (by simp [go_sem]; cases t <;> simp [brs, brGo, omat_nil]) (by simp [go_sem]) ?_
  rintro i ⟨h1, hi⟩
  simp [go_sem]
  refine ⟨fun h => ?_, fun h => ?_⟩ <;> simp at h
  · have hif := h
    have hb := brs_take h1 hif
    have hm := brs_many ht h1 hi
    have hi2 := brs_i ht i h1 hi
    have hok := ht.2.2 i h1 hif
    have hle := ht.le i (by omega)
    by_cases hx : t[i]?.getD 0 = 1
    · rw [hx, brStep_one] at hb
      simp [go_sem, avs_drop hif, hx]
      have e1 : (brs (t.take i)).length + 1 = (brs (t.take (i + 1))).length := by rw [hb]; simp
      have e2 : omat (brs (t.take i)) ++ [AV.own 2 1 [AV.val (Value.int IntKind.i64 0)]] = omat (brs (t.take (i + 1))) := by rw [hb, omat_app, omat_one]; rfl
      repeat' apply And.intro
      all_goals first
        | omega
        | exact ⟨i + 1, ⟨by omega, by omega⟩, by omega, Off_reset _ _ _ (by simp), ⟨e1, e2⟩, by omega⟩
        | (intro e; rw [e] at hif; simp at hif; done)
        | kernel_rfl
    · have hne := brs_ne ht h1 hif hx
      have hla := omat_last hne
      rw [brStep_more hx] at hb
      generalize brs (t.take i) = O at *
      have hOl : 1 ≤ O.length := List.length_pos_iff.2 hne
      have hlen : (O[O.length - 1]?.getD []).length ≤ 1048576 := by
        have := sumN_mem (l := O) (b := O[O.length - 1]?.getD []) (by simp [show O.length - 1 < O.length by omega])
        have := hi2.2.1
        omega
      have hsn := omat_set O (O.length - 1) (O[O.length - 1]?.getD [] ++ [t[i]?.getD 0 - 1])
      rw [← hb] at hsn
      generalize O[O.length - 1]?.getD [] = l at *
      simp [go_sem, avs_drop hif, hx, hla]
      have e1 : O.length = (brs (t.take (i + 1))).length := by rw [hb]; simp
      rw [avs_snoc, List.length_append, List.length_singleton] at hsn
      repeat' apply And.intro
      all_goals first
        | omega
        | exact ⟨i + 1, ⟨by omega, by omega⟩, by omega, Off_reset _ _ _ (by simp), ⟨e1, hsn⟩, by omega⟩
        | (intro e; rw [e] at hif; simp at hif; done)
        | kernel_rfl
  · simp [go_sem]
    rw [List.take_of_length_le h]
    simp
set_option maxRecDepth 100000 in
theorem branchesOf_c (t : List Int) (hl : t.length ≤ 1048576) (ht : Lv t) : Con Try.prog 52 [.sl t.length (avs t)] (.own 22 (brs t).length (omat (brs t))) := by
  have ht1 := ht.1
  have ed : List.take (t.length - 1) (List.drop 1 (avs t)) = avs (t.drop 1) := by
    rw [List.take_of_length_le (by simp)]; simp [avs]
  refine con_of_vc Try.mixed ⟨6, [], [], []⟩ Try.func52 (by decide) rfl (by simp) (by decide) (by simp [freshOK, freshL, go_sem]) ?_
  rw [Try.ntmps52]
  simp [go_sem]
  refine ⟨by omega, ?_⟩
  refine loop_inv (3 :: 5 :: List.range' 10 25) (fun i : Nat => [(3, .own 22 (brs (t.take (i + 1))).length (omat (brs (t.take (i + 1))))), (10, .int i)]) (fun i => i + 1 ≤ t.length) (fun i => t.length - i) 0 (by omega) (by simp [go_sem]; cases t <;> simp [brs, brGo, omat_nil]) (by simp [go_sem]) ?_
  rintro i hi
  simp [go_sem]
  refine ⟨fun h => ?_, fun h => ?_⟩ <;> simp at h
  · have hif : i + 1 < t.length := by omega
    have hda : List.drop i (List.take (t.length - 1) (avs t).tail) = .val (.int .i64 (t[i + 1]?.getD 0)) :: avs (t.drop (i + 2)) := by
      rw [List.take_of_length_le (by simp), ← List.drop_one, List.drop_drop, Nat.add_comm 1 i, avs_drop hif]; simp
    have hnn : ¬ (avs t).tail = [] := fun e => by have := congrArg List.length e; simp at this; omega
    have hn1 : ¬ t.length - 1 = 0 := by omega
    have hn2 : i < t.length - 1 := by omega
    have hb := brs_take (i := i + 1) (by omega) hif
    have hm := brs_many ht (i := i + 1) (by omega) (by omega)
    have hi2 := brs_i ht (i + 1) (by omega) (by omega)
    have hok := ht.2.2 (i + 1) (by omega) hif
    have hle := ht.le (i + 1) hif
    by_cases hx : t[i + 1]?.getD 0 = 1
    · rw [hx, brStep_one] at hb
      have e1 : (brs (t.take (i + 1))).length + 1 = (brs (t.take (i + 1 + 1))).length := by rw [hb]; simp
      have e2 : omat (brs (t.take (i + 1))) ++ [AV.own 2 1 [AV.val (Value.int IntKind.i64 0)]] = omat (brs (t.take (i + 1 + 1))) := by rw [hb, omat_app, omat_one]; rfl
      simp [go_sem, hda, hnn, hn1, hn2, hx]
      exact ⟨⟨by omega, by omega⟩, by omega, by omega, by omega, i + 1, by omega, by omega, Off_reset _ _ _ (by simp), ⟨e1, e2⟩, by omega⟩
    · have hne := brs_ne ht (i := i + 1) (by omega) hif hx
      have hla := omat_last hne
      rw [brStep_more hx] at hb
      generalize hO : brs (t.take (i + 1)) = O at *
      have hOl : 1 ≤ O.length := List.length_pos_iff.2 hne
      have hlen : (O[O.length - 1]?.getD []).length ≤ 1048576 := by
        have := sumN_mem (l := O) (b := O[O.length - 1]?.getD []) (by simp [show O.length - 1 < O.length by omega])
        have := hi2.2.1
        omega
      have hsn := omat_set O (O.length - 1) (O[O.length - 1]?.getD [] ++ [t[i + 1]?.getD 0 - 1])
      rw [← hb] at hsn
      generalize O[O.length - 1]?.getD [] = l at *
      have e1 : O.length = (brs (t.take (i + 1 + 1))).length := by rw [hb]; simp
      rw [avs_snoc, List.length_append, List.length_singleton] at hsn
      simp [go_sem, hda, hnn, hn1, hn2, hx, hla]
      repeat' apply And.intro
      all_goals first
        | omega
        | exact ⟨i + 1, by omega, by omega, Off_reset _ _ _ (by simp), ⟨e1, hsn⟩, by omega⟩
  · simp [go_sem]
    have e : t.take (i + 1) = t := List.take_of_length_le (by omega)
    rw [e]
    simp
end Go.Proofs.Ytoeikpioonlmfaa


namespace Go.Proofs.Ytoeikpioonlmfaa
open Go.Abs
set_option linter.unusedSectionVars false
set_option linter.unusedVariables false
set_option linter.unusedSimpArgs false
set_option maxHeartbeats 4000000
theorem brs_cnt {t : List Int} (h : Lv t) : (brs t).length < t.length := by
  have h1 := h.1
  have := brs_many h (i := t.length) (by omega) (by omega)
  rwa [List.take_length] at this
end Go.Proofs.Ytoeikpioonlmfaa


namespace Go.Proofs.Ytoeikpioonlmfaa
open Go.Abs
set_option linter.unusedSectionVars false
set_option linter.unusedVariables false
set_option linter.unusedSimpArgs false
set_option maxHeartbeats 1000000
theorem rev_ind {α : Type} {P : List α → Prop} (h0 : P []) (h1 : ∀ l a, P l → P (l ++ [a])) (l : List α) : P l := by
  rw [← List.reverse_reverse l]
  induction l.reverse with
  | nil => exact h0
  | cons a l ih => rw [List.reverse_cons]; exact h1 _ _ ih
def atL (p : List Int) : List (List Int) → Nat
  | [] => 0
  | s :: S => if ltL s p = true then 0 else atL p S + 1
theorem atL_le (p : List Int) : ∀ S, atL p S ≤ S.length
  | [] => by simp [atL]
  | s :: S => by have := atL_le p S; rw [atL]; split <;> simp; omega
def insL (p : List Int) (S : List (List Int)) : List (List Int) := S.take (atL p S) ++ p :: S.drop (atL p S)
@[simp] theorem insL_len (p : List Int) (S : List (List Int)) : (insL p S).length = S.length + 1 := by have := atL_le p S; simp [insL]; omega
theorem insL_mem {p x : List Int} {S : List (List Int)} (h : x ∈ insL p S) : x = p ∨ x ∈ S := by
  rcases List.mem_append.1 h with h | h
  · exact .inr (List.mem_of_mem_take h)
  · rcases List.mem_cons.1 h with h | h
    · exact .inl h
    · exact .inr (List.mem_of_mem_drop h)
theorem sumL_ins (p : List Int) (S : List (List Int)) : sumL (insL p S) = sumL S + p.length := by
  have h := congrArg sumL (List.take_append_drop (atL p S) S)
  rw [sumL_app] at h
  rw [insL, sumL_app, sumL]
  omega
def rootL (S : List (List Int)) : List Int := 0 :: S.flatMap fun b => b.map (· + 1)
theorem rootL_len (S : List (List Int)) : (rootL S).length = sumL S + 1 := by
  have : ∀ S : List (List Int), (S.flatMap fun b => b.map (· + 1)).length = sumL S := by
    intro S
    induction S with
    | nil => rfl
    | cons b S ih => simp [sumL, ih]
  rw [rootL, List.length_cons, this]
def canF : Nat → List Int → List Int
  | 0, _ => []
  | n + 1, t => rootL ((brs t).foldl (fun S b => insL (canF n b) S) [])
def insA (n : Nat) (bs : List (List Int)) : List (List Int) := bs.foldl (fun S b => insL (canF n b) S) []
theorem insA_snoc (n : Nat) (bs : List (List Int)) (b : List Int) : insA n (bs ++ [b]) = insL (canF n b) (insA n bs) := by simp [insA]
theorem insA_mem {n : Nat} {bs : List (List Int)} : ∀ {x : List Int}, x ∈ insA n bs → ∃ b ∈ bs, x = canF n b := by
  refine rev_ind (P := fun bs => ∀ {x : List Int}, x ∈ insA n bs → ∃ b ∈ bs, x = canF n b) ?_ ?_ bs
  · intro x hx; simp [insA] at hx
  · intro l b ih x hx
    rw [insA_snoc] at hx
    rcases insL_mem hx with h | h
    · exact ⟨b, by simp, h⟩
    · obtain ⟨c, hc, e⟩ := ih h
      exact ⟨c, by simp [hc], e⟩
theorem insA_len_le (n : Nat) (bs : List (List Int)) (k : Nat) (h : bs.length ≤ k) : (insA n bs).length ≤ k := by
  have : ∀ bs : List (List Int), (insA n bs).length = bs.length := rev_ind rfl (fun l b ih => by rw [insA_snoc, insL_len, ih]; simp)
  rw [this]; exact h
theorem canF_val (n : Nat) : ∀ (t : List Int), ∀ x ∈ canF n t, 0 ≤ x ∧ x ≤ n := by
  induction n with
  | zero => intro t x hx; simp [canF] at hx
  | succ n ih =>
    intro t x hx
    rw [canF] at hx
    rcases List.mem_cons.1 hx with rfl | hx
    · omega
    · obtain ⟨b, hb, hx⟩ := List.mem_flatMap.1 hx
      obtain ⟨y, hy, rfl⟩ := List.mem_map.1 hx
      obtain ⟨c, hc, rfl⟩ := insA_mem (n := n) (bs := brs t) hb
      have := ih c y hy
      omega
theorem sumL_set {A : List (List Int)} {k : Nat} (h : k < A.length) (v : List Int) : sumL (A.set k v) + (A[k]?.getD []).length = sumL A + v.length := by
  induction A generalizing k with
  | nil => simp at h
  | cons r A ih =>
    cases k with
    | zero => simp [sumL]; omega
    | succ k => have := ih (k := k) (by simpa using h); simp [sumL] at this ⊢; omega
theorem brStep_sum {out : List (List Int)} {x : Int} (h : out ≠ [] ∨ x = 1) : sumL (brStep out x) = sumL out + 1 := by
  unfold brStep
  simp only
  have ho : (if x = 1 then out ++ [[]] else out) ≠ [] := by
    split
    · simp
    · rcases h with h | h
      · exact h
      · contradiction
  have hs : sumL (if x = 1 then out ++ [[]] else out) = sumL out := by
    split
    · rw [sumL_app]; simp [sumL]
    · rfl
  generalize (if x = 1 then out ++ [[]] else out) = o at *
  have hl : o.length - 1 < o.length := by have := List.length_pos_iff.2 ho; omega
  have := sumL_set hl (o[o.length - 1]?.getD [] ++ [x - 1])
  simp at this
  omega
theorem brs_sum {t : List Int} (h : Lv t) : ∀ i, 1 ≤ i → i ≤ t.length → sumL (brs (t.take i)) + 1 = i ∧ (2 ≤ i → brs (t.take i) ≠ [])
  | 0, h1, _ => by omega
  | 1, _, _ => by
    have : brs (t.take 1) = [] := by
      unfold brs
      rw [List.drop_eq_nil_of_le (by simp; omega)]; rfl
    rw [this]
    exact ⟨rfl, by omega⟩
  | i + 2, h1, h2 => by
    have ih := brs_sum h (i + 1) (by omega) (by omega)
    rw [brs_take (by omega) (by omega)]
    have hne : brs (t.take (i + 1)) ≠ [] ∨ t[i + 1]?.getD 0 = 1 := by
      by_cases e : i = 0
      · subst e
        have h3 := h.2.2 1 (by omega) (by omega)
        rw [show 1 - 1 = 0 by omega, h.2.1] at h3
        exact .inr (by show t[1]?.getD 0 = 1; omega)
      · exact .inl (ih.2 (by omega))
    rw [brStep_sum hne]
    refine ⟨by omega, fun _ e => ?_⟩
    have := brStep_sum hne
    rw [e] at this
    simp [sumL] at this
theorem brs_total {t : List Int} (h : Lv t) : sumL (brs t) + 1 = t.length := by
  have := (brs_sum h t.length h.1 (Nat.le_refl _)).1
  rwa [List.take_length] at this
theorem canF_len : ∀ (n : Nat) (t : List Int), Lv t → t.length ≤ n → (canF n t).length = t.length
  | 0, t, h, hl => by have := h.1; omega
  | n + 1, t, h, hl => by
    have gen : ∀ bs : List (List Int), (∀ b ∈ bs, (canF n b).length = b.length) → sumL (insA n bs) = sumL bs := by
      intro bs
      refine rev_ind (P := fun bs => (∀ b ∈ bs, (canF n b).length = b.length) → sumL (insA n bs) = sumL bs) (fun _ => rfl) ?_ bs
      intro l b ih hb
      rw [insA_snoc, sumL_ins, sumL_app, ih (fun c hc => hb c (by simp [hc])), hb b (by simp)]
      simp [sumL]
    have e : (brs t).foldl (fun S b => insL (canF n b) S) [] = insA n (brs t) := rfl
    rw [canF, rootL_len, e, gen (brs t) (fun b hb => by
      have := brs_ok h hb
      exact canF_len n b this.1 (by have := this.2; omega)), brs_total h]
theorem mat_app (A C : List (List Int)) : mat (A ++ C) = mat A ++ mat C := by simp [mat]
theorem mat_dropL (A : List (List Int)) (k : Nat) : (mat A).drop k = mat (A.drop k) := by simp [mat]
theorem mat_takeL (A : List (List Int)) (k : Nat) : (mat A).take k = mat (A.take k) := by simp [mat, List.map_take]
theorem mat_noown : ∀ A : List (List Int), hasOwnL (mat A) = false
  | [] => rfl
  | r :: A => by
    have := mat_noown A
    simp only [mat, List.map_cons] at this ⊢
    rw [hasOwnL, this]; rfl
theorem sumL_ge {A : List (List Int)} {b : List Int} (h : b ∈ A) : b.length ≤ sumL A := by
  induction A with
  | nil => simp at h
  | cons r A ih =>
    rcases List.mem_cons.1 h with rfl | h
    · simp [sumL]
    · have := ih h; simp only [sumL]; omega
set_option maxRecDepth 100000 in
theorem l03Canon_c : ∀ (n : Nat) (t : List Int), n ≤ 1000 → Lv t → t.length ≤ n → Con Try.prog 30 [.sl t.length (avs t)] (.own 2 t.length (avs (canF n t)))
  | 0, t, _, h, hl => by have := h.1; omega
  | n + 1, t, hn, h, hl => by
    have hcl := canF_len (n + 1) t h hl
    have cP := l03Parts_c t (by omega) h
    have bt := brs_total h
    have ih := fun b hb => l03Canon_c n b (by omega) (brs_ok h hb).1 (by have := (brs_ok h hb).2; omega)
    have hce : canF (n + 1) t = rootL (insA n (brs t)) := rfl
    rw [hce]
    have blen := fun b (hb : b ∈ brs t) => canF_len n b (brs_ok h hb).1 (by have := (brs_ok h hb).2; omega)
    have bvalid := fun b (hb : b ∈ brs t) => brs_ok h hb
    have bm := brs_many h h.1 (Nat.le_refl _)
    rw [List.take_length] at bm
    generalize brs t = bs at *
    refine con_of_vc Try.mixed ⟨12, [13, 25, 14, 53], [], []⟩ Try.func30 (by decide) rfl (by simp) (by decide) (by simp [freshOK, freshL, go_sem]) ?_
    rw [Try.ntmps30]
    simp [go_sem]
    refine CallVC.of (cP) (by decide) ?_
    simp [go_sem]
    refine loop_inv (4 :: 5 :: 6 :: 7 :: 8 :: List.range' 15 39) (fun i : Nat => [(4, .sl (insA n (bs.take i)).length (mat (insA n (bs.take i)))), (5, .int i)]) (fun i => i ≤ bs.length) (fun i => bs.length - i) 0 (by simp) (by simp [go_sem, insA, mat]) (by simp [go_sem]) ?_
    intro i hi
    simp [go_sem]
    refine ⟨fun h => ?_, fun h => ?_⟩ <;> simp at h
    · have hif : i < bs.length := by omega
      have hb := memD [] hif
      have ht : insA n (bs.take (i + 1)) = insL (canF n (bs[i]?.getD [])) (insA n (bs.take i)) := by
        rw [List.take_add_one, List.getElem?_eq_getElem hif, Option.toList_some, insA_snoc]; rfl
      have c1 := ih _ hb
      have l1 := blen _ hb
      have s1 := sumL_ge hb
      have sl : ∀ s ∈ insA n (bs.take i), s.length ≤ 1000 := fun s hs => by
        obtain ⟨b, hb2, rfl⟩ := insA_mem hs
        have hb3 := List.mem_of_mem_take hb2
        have := sumL_ge hb3
        rw [blen b hb3]; omega
      have il : (insA n (bs.take i)).length ≤ i := insA_len_le n _ _ (by simp; omega)
      generalize hN : insA n (bs.take (i + 1)) = S2 at *
      generalize insA n (bs.take i) = S at *
      simp [go_sem, mat_drop hif]
      refine ⟨⟨hif, by rintro rfl; simp at hif⟩, ?_⟩
      refine CallVC.of (c1) (by decide) ?_
      simp [go_sem]
      rw [← l1]
      generalize canF n (bs[i]?.getD []) = p at *
      refine loop_inv (7 :: List.range' 26 15) (fun a : Nat => [(7, .int a)]) (fun a => a ≤ S.length ∧ atL p S = a + atL p (S.drop a)) (fun a => S.length - a) 0 (by simp) (by simp [go_sem]) (by simp [go_sem]) ?_
      rintro a ⟨ha, hat⟩
      by_cases has : a < S.length
      · have has' : (a : Int) < S.length := by omega
        have hd : S.drop a = S[a]?.getD [] :: S.drop (a + 1) := by rw [List.drop_eq_getElem_cons has]; simp [has]
        rw [hd, atL] at hat
        have hg := mat_drop has
        have hsl := sl _ (memD [] has)
        have cL := l01Less_c (S[a]?.getD []) p (by omega) (by omega)
        by_cases hlt : ltL (S[a]?.getD []) p = true
        · rw [if_pos hlt] at hat
          rw [hlt] at cL
          have hS2 : S2 = S.take a ++ p :: S.drop a := by rw [ht, insL, hat, Nat.add_zero]
          simp [go_sem, has', hg]
          refine ⟨by rintro rfl; simp at has, ?_⟩
          refine CallVC.of (cL) (by decide) ?_
          simp [go_sem]
          simp [go_sem, mat_dropL, mat_takeL, mat_noown]
          refine ⟨by omega, ⟨by omega, by omega⟩, by omega, ⟨by omega, by omega, by omega⟩, ⟨by omega, by omega, by omega, by omega⟩, ⟨by omega, by omega⟩, i + 1, by omega, by omega, (by repeat (first | exact Off_reset _ _ _ (by simp) | (refine Off.reset (by intro x hx; simp at hx ⊢; omega) (by simp) ?_; simp -failIfUnchanged [go_sem, Off_reset]))), ?_, by omega⟩
          rw [hN, hS2]
          have em : frzL (mat (S.take a) ++ AV.sl p.length (avs p) :: mat ((S.drop a).take (S.length - a))) = mat (S.take a ++ p :: S.drop a) := by rw [show (S.drop a).take (S.length - a) = S.drop a from List.take_of_length_le (by simp), ← mat_frz (S.take a ++ p :: S.drop a), mat_app]; rfl
          exact ⟨by simp; omega, em⟩
        · rw [if_neg hlt] at hat
          have hlf : ltL (S[a]?.getD []) p = false := by simpa using hlt
          rw [hlf] at cL
          simp [go_sem, has', hg]
          refine ⟨by rintro rfl; simp at has, ?_⟩
          refine CallVC.of (cL) (by decide) ?_
          simp [go_sem]
          exact ⟨by omega, a + 1, ⟨by omega, by omega⟩, by omega, Off_reset _ _ _ (by simp), by omega⟩
      · have has' : ¬ (a : Int) < S.length := by omega
        have hd : S.drop a = [] := List.drop_eq_nil_of_le (by omega)
        rw [hd, atL] at hat
        have hS2 : S2 = S.take a ++ p :: S.drop a := by rw [ht, insL, hat, Nat.add_zero]
        simp [go_sem, has', mat_dropL, mat_takeL, mat_noown]
        refine ⟨by omega, ⟨by omega, by omega⟩, by omega, ⟨by omega, by omega, by omega⟩, ⟨by omega, by omega, by omega, by omega⟩, ⟨by omega, by omega⟩, i + 1, by omega, by omega, (by repeat (first | exact Off_reset _ _ _ (by simp) | (refine Off.reset (by intro x hx; simp at hx ⊢; omega) (by simp) ?_; simp -failIfUnchanged [go_sem, Off_reset]))), ?_, by omega⟩
        rw [hN, hS2]
        have em : frzL (mat (S.take a) ++ AV.sl p.length (avs p) :: mat ((S.drop a).take (S.length - a))) = mat (S.take a ++ p :: S.drop a) := by rw [show (S.drop a).take (S.length - a) = S.drop a from List.take_of_length_le (by simp), ← mat_frz (S.take a ++ p :: S.drop a), mat_app]; rfl
        exact ⟨by simp; omega, em⟩
    · have e : i = bs.length := by omega
      subst e
      rw [List.take_length]
      have tot : (rootL (insA n bs)).length = t.length := by rw [← hce, hcl]
      rw [rootL_len] at tot
      have val : ∀ x ∈ rootL (insA n bs), 0 ≤ x ∧ x ≤ (n + 1 : Nat) := fun x hx => by rw [← hce] at hx; exact canF_val (n + 1) t x hx
      have sval : ∀ s ∈ insA n bs, ∀ x ∈ s, 0 ≤ x ∧ x ≤ n := fun s hs x hx => by
        obtain ⟨b, _, rfl⟩ := insA_mem hs
        exact canF_val n b x hx
      clear hce hcl
      have Sl : (insA n bs).length ≤ bs.length := insA_len_le n bs _ (Nat.le_refl _)
      generalize insA n bs = S at *
      simp [go_sem]
      refine loop_inv (9 :: 10 :: 11 :: List.range' 55 26) (fun i : Nat => [(9, .own 2 (sumL (S.take i) + 1) (avs (rootL (S.take i)))), (10, .int i)]) (fun i => i ≤ S.length) (fun i => S.length - i) 0 (by simp) (by simp [go_sem, rootL, sumL, avs]) (by simp [go_sem]) ?_
      intro i hi
      simp [go_sem]
      refine ⟨fun h => ?_, fun h => ?_⟩ <;> simp at h
      · have hif : i < S.length := by omega
        have hs := memD [] hif
        have sv := sval _ hs
        have st := sumL_take hif
        have sle := sumL_le S (i + 1)
        have rr : rootL (S.take (i + 1)) = rootL (S.take i) ++ (S[i]?.getD []).map (· + 1) := by
          rw [rootL, List.take_add_one, List.getElem?_eq_getElem hif, Option.toList_some, List.flatMap_append, List.flatMap_singleton]; rfl
        generalize hR : S[i]?.getD [] = b at *
        simp [go_sem]
        refine loop_inv (9 :: 11 :: List.range' 61 20) (fun k : Nat => [(9, .own 2 (sumL (S.take i) + 1 + k) (avs (rootL (S.take i) ++ (b.take k).map (· + 1)))), (11, .int k)]) (fun k => k ≤ b.length) (fun k => b.length - k) 0 (by simp) (by simp [go_sem]) (by simp [go_sem]) ?_
        intro k hk
        simp [go_sem, mat_drop hif, hR]
        refine ⟨⟨hif, by rintro rfl; simp at hif⟩, ?_⟩
        refine ⟨fun h => ?_, fun h => ?_⟩ <;> simp at h
        · have hkb : k < b.length := by omega
          have hv := sv _ (memD 0 hkb)
          simp [go_sem, mat_drop hif, hR, avs_drop hkb]
          have rl := rootL_len (S.take i)
          refine ⟨⟨hif, by rintro rfl; simp at hif⟩, ⟨hkb, by rintro rfl; simp at hkb⟩, ⟨by omega, by omega⟩, ⟨by omega, by omega, by omega⟩, ⟨by omega, by omega⟩, k + 1, by omega, by omega, Off_reset _ _ _ (by simp), ?_, by omega⟩
          rw [List.take_add_one, List.getElem?_eq_getElem hkb]
          refine ⟨by omega, ?_⟩
          rw [avs_app, avs_app, List.append_assoc]
          simp [hkb, avs]
        · have e : k = b.length := by omega
          subst e
          simp [go_sem]
          refine ⟨by omega, i + 1, by omega, by omega, (Off.reset (by intro x hx; simp at hx ⊢; omega) (by simp) (by simp [go_sem, Off_reset])), ?_, by omega⟩
          rw [rr, show (b.map (· + 1)).take b.length = b.map (· + 1) from List.take_of_length_le (by simp)]; exact ⟨by omega, rfl⟩
      · have e : i = S.length := by omega
        subst e
        rw [List.take_length]
        simp [go_sem]
        omega
end Go.Proofs.Ytoeikpioonlmfaa


namespace Go.Proofs.Ytoeikpioonlmfaa
open Go.Abs Go.Shelf Go.Sort
set_option linter.unusedSectionVars false
set_option linter.unusedVariables false
set_option linter.unusedSimpArgs false
set_option maxHeartbeats 1000000
theorem ltL_asym {a b : List Int} (h : ltL a b = true) : ltL b a = false := by
  cases h2 : ltL b a with
  | false => rfl
  | true => have := ltL_trans h h2; rw [ltL_irr] at this; simp at this
theorem insL_perm (p : List Int) (S : List (List Int)) : (insL p S).Perm (p :: S) := by
  unfold insL
  exact List.perm_middle.trans (by rw [List.take_append_drop])
theorem insL_cons (p s : List Int) (S : List (List Int)) : insL p (s :: S) = if ltL s p = true then p :: s :: S else s :: insL p S := by
  unfold insL
  rw [atL]
  split <;> simp
theorem insL_dsc (p : List Int) : ∀ {S : List (List Int)}, S.Pairwise (fun a b => ltL a b = false) → (insL p S).Pairwise (fun a b => ltL a b = false)
  | [], _ => by simp [insL, atL]
  | s :: S, h => by
    obtain ⟨h1, h2⟩ := List.pairwise_cons.1 h
    rw [insL_cons]
    split
    · rename_i hs
      refine List.pairwise_cons.2 ⟨fun y hy => ?_, h⟩
      rcases List.mem_cons.1 hy with rfl | hy
      · exact ltL_asym hs
      · cases hp : ltL p y with
        | false => rfl
        | true => have := h1 y hy; rw [ltL_trans hs hp] at this; exact this
    · rename_i hs
      refine List.pairwise_cons.2 ⟨fun y hy => ?_, insL_dsc p h2⟩
      rcases insL_mem hy with rfl | hy
      · simpa using hs
      · exact h1 y hy
theorem insA_dsc (n : Nat) (bs : List (List Int)) : (insA n bs).Pairwise (fun a b => ltL a b = false) :=
  rev_ind (P := fun bs => (insA n bs).Pairwise (fun a b => ltL a b = false)) List.Pairwise.nil (fun l a h => by rw [insA_snoc]; exact insL_dsc _ h) bs
theorem insA_perm (n : Nat) (bs : List (List Int)) : (insA n bs).Perm (bs.map (canF n)) :=
  rev_ind (P := fun bs => (insA n bs).Perm (bs.map (canF n))) (List.Perm.refl _) (fun l a h => by
    rw [insA_snoc, List.map_append]
    refine (insL_perm _ _).trans ((h.cons _).trans ?_)
    exact (List.perm_append_comm (l₁ := [canF n a]) (l₂ := l.map (canF n)))) bs
theorem dsc_unique {X L : List (List Int)} (hp : X.Perm L) (hX : X.Pairwise (fun a b => ltL a b = false)) (hL : L.Pairwise (fun a b => ltL a b = false)) : X = L :=
  hp.eq_of_pairwise (fun a b _ _ h1 h2 => by
    by_cases e : a = b
    · exact e
    · have := ltL_tot e h1; rw [h2] at this; simp at this) hX hL
theorem canonical1_c [DrawK] (a b : List Int) (ha : a.length ≤ 1000000) (hb : b.length ≤ 1000000) : Con Try.prog 54 [.sl a.length (avs a), .sl b.length (avs b)] (.int (cmpL b a)) := by
  refine con_of_vc Try.mixed ⟨5, [], [], []⟩ Try.func54 (by decide) rfl (by simp) (by decide) (by simp [freshOK, freshL, go_sem]) ?_
  rw [Try.ntmps54]
  simp [go_sem]
  refine CallVC.of (Compare_c b a (by omega) (by omega)) (by decide) ?_
  simp [go_sem]
theorem swo_dsc : SWO (Go.Proofs.ltOf fun a b : List Int => cmpL b a) := by
  have e : (Go.Proofs.ltOf fun a b : List Int => cmpL b a) = fun a b => ltL b a := by
    funext a b; exact cmpL_neg _ _
  rw [e]
  refine ⟨fun m => ltL_irr _, fun x y z h1 h2 => ltL_trans h2 h1, fun x y z h1 h2 => ?_⟩
  cases h3 : ltL z x with
  | false => rfl
  | true =>
    by_cases e : x = y
    · rw [e] at h3; rw [h3] at h2; exact h2
    · have h4 := ltL_tot (fun x => e x.symm) h1
      have := ltL_trans h3 h4
      rw [this] at h2; exact h2
theorem omat_flat (X : List (List Int)) : (X.flatMap fun x => [AV.own 2 x.length (avs x)]) = omat X := by
  induction X with
  | nil => rfl
  | cons x X ih => simp only [List.flatMap_cons, ih, omat, List.map_cons, List.singleton_append]
theorem sortTrees_c (X L : List (List Int)) (hX : X.Perm L) (hS : L.Pairwise (fun a b => ltL a b = false)) (hl : ∀ m ∈ L, m.length ≤ 1000000) (hn : L.length ≤ 1048576) :
    MCon Try.prog 53 [.own 22 X.length (omat X), .val (.func (.func 54) #[] #[])] (.tup []) [.own 22 X.length (omat L), .any] := by
  have hxl := hX.length_eq
  have hm : ∀ m ∈ X, m.length ≤ 1000000 := fun m hm => hl m (hX.mem_iff.1 hm)
  obtain ⟨ys, h1, h2, h3⟩ := sort_mcon1 Try.sortTrees ⟨_, Try.func53, by decide, rfl⟩ (fun m : List Int => .own 2 m.length (avs m)) (fun m n => cmpL n m) swo_dsc 54 22 (by kernel_rfl) X (by rw [omat_flat]; exact omat_fresh X)
    (fun x hx y hy => by simpa [frz] using @canonical1_c ⟨1⟩ x y (hm x hx) (hm y hy)) (by omega)
  have e : ys = L := dsc_unique (h1.trans hX) (h2.imp fun {a b} h => by
    have := cmpL_neg a b
    rw [← this]; simpa using h) hS
  subst e
  rw [omat_flat, omat_flat] at h3
  exact h3
set_option maxRecDepth 100000 in
theorem rootOn_c (S : List (List Int)) (hl : S.length ≤ 1000) (hr : ∀ b ∈ S, b.length ≤ 1000 ∧ ∀ x ∈ b, 0 ≤ x ∧ x ≤ 1000) : Con Try.prog 56 [.sl S.length (mat S)] (.own 2 (rootL S).length (avs (rootL S))) := by
  have bl : ∀ i, (rootL (S.take i)).length ≤ 1 + i * 1000 := fun i => by
    rw [rootL_len]
    have : ∀ T : List (List Int), (∀ b ∈ T, b.length ≤ 1000) → sumL T ≤ T.length * 1000 := by
      intro T
      induction T with
      | nil => intro _; simp [sumL]
      | cons b T ih => intro h; have := h b (by simp); have := ih (fun c hc => h c (by simp [hc])); simp only [sumL, List.length_cons]; omega
    have h1 := this (S.take i) (fun b hb => (hr b (List.mem_of_mem_take hb)).1)
    have h2 : (S.take i).length ≤ i := by rw [List.length_take]; omega
    have := Nat.mul_le_mul_right 1000 h2
    omega
  refine con_of_vc Try.mixed ⟨8, [], [], []⟩ Try.func56 (by decide) rfl (by simp) (by decide) (by simp [freshOK, freshL, go_sem]) ?_
  rw [Try.ntmps56]
  simp [go_sem]
  refine loop_inv (3 :: 5 :: 7 :: List.range' 11 17) (fun i : Nat => [(3, .own 2 (rootL (S.take i)).length (avs (rootL (S.take i)))), (11, .int i)]) (fun i => i ≤ S.length) (fun i => S.length - i) 0 (by simp) (by simp [go_sem, rootL, avs]) (by simp [go_sem]) ?_
  intro i hi
  by_cases hiS : i < S.length
  · have hii : (i : Int) < S.length := by omega
    have ne : ¬ S = [] := by rintro rfl; simp at hiS
    have md := mat_drop hiS
    obtain ⟨b1, b2⟩ := hr _ (show S[i]?.getD [] ∈ S by simp [hiS])
    have sn : rootL (S.take (i + 1)) = rootL (S.take i) ++ (S[i]?.getD []).map (· + 1) := by
      unfold rootL
      rw [List.take_add_one, List.flatMap_append, List.getElem?_eq_getElem hiS]; simp
    have bli := bl i
    generalize S[i]?.getD [] = b at *
    generalize rootL (S.take i) = R at *
    simp [go_sem, hii, md]
    refine ⟨ne, ?_⟩
    refine loop_inv (3 :: 7 :: List.range' 17 10) (fun k : Nat => [(3, .own 2 (R.length + k) (avs (R ++ (b.map (· + 1)).take k))), (17, .int k)]) (fun k => k ≤ b.length) (fun k => b.length - k) 0 (by simp) (by simp [go_sem]) (by simp [go_sem]) ?_
    intro k hk
    by_cases hkb : k < b.length
    · have hki : (k : Int) < b.length := by omega
      have nb : ¬ b = [] := by rintro rfl; simp at hkb
      have ad := avs_drop hkb
      have bx := b2 _ (show b[k]?.getD 0 ∈ b by simp [hkb])
      have tk : (b.map (· + 1)).take (k + 1) = (b.map (· + 1)).take k ++ [b[k]?.getD 0 + 1] := by
        rw [List.take_add_one]; simp [hkb]
      rw [List.getD_eq_getElem?_getD] at ad
      generalize b[k]?.getD 0 = x at *
      simp [go_sem, hki, ad]
      exact ⟨nb, ⟨by omega, by omega⟩, ⟨by omega, by omega, by omega⟩, ⟨by omega, by omega⟩, k + 1, by omega, by omega, Off_reset _ _ _ (by simp), ⟨by omega, by rw [tk, ← List.append_assoc, avs_snoc]⟩, by omega⟩
    · have e : k = b.length := by omega
      subst e
      have hki : ¬ (b.length : Int) < b.length := by omega
      have tk : (b.map (· + 1)).take b.length = b.map (· + 1) := List.take_of_length_le (by simp)
      simp [go_sem, hki, tk]
      exact ⟨⟨by omega, by omega⟩, i + 1, by omega, by omega, (Off.reset (by intro x hx; simp at hx ⊢; omega) (by simp) (by simp [go_sem, Off_reset])), by rw [sn]; simp, by omega⟩
  · have e : i = S.length := by omega
    subst e
    have hii : ¬ (S.length : Int) < S.length := by omega
    rw [List.take_length]
    simp [go_sem, hii]
def cnB (n : Nat) (bs : List (List Int)) (i : Nat) : List (List Int) := (bs.take i).map (canF n) ++ bs.drop i
theorem cnB_zero (n : Nat) (bs : List (List Int)) : cnB n bs 0 = bs := by simp [cnB]
theorem cnB_all (n : Nat) (bs : List (List Int)) : cnB n bs bs.length = bs.map (canF n) := by simp [cnB]
theorem omat_get2 {A : List (List Int)} {k : Nat} (h : k < A.length) : (omat A)[k]? = some (.own 2 (A[k]?.getD []).length (avs (A[k]?.getD []))) := by simp [omat, h]
theorem cnB_at (n : Nat) {bs : List (List Int)} {i : Nat} (hi : i < bs.length) : (omat (cnB n bs i))[i]? = some (.own 2 (bs[i]?.getD []).length (avs (bs[i]?.getD []))) := by
  have h1 : i < (cnB n bs i).length := by simp [cnB]; omega
  rw [omat_get2 h1]
  have e : (cnB n bs i)[i]?.getD [] = bs[i]?.getD [] := by
    unfold cnB
    rw [List.getElem?_append_right (by simp; omega)]; simp [Nat.min_eq_left (Nat.le_of_lt hi)]
  rw [e]
theorem cnB_set (n : Nat) {bs : List (List Int)} {i : Nat} (hi : i < bs.length) (hc : (canF n (bs[i]?.getD [])).length = (bs[i]?.getD []).length) :
    (omat (cnB n bs i)).set i (.own 2 (bs[i]?.getD []).length (avs (canF n (bs[i]?.getD [])))) = omat (cnB n bs (i + 1)) := by
  have h := omat_set (cnB n bs i) i (canF n (bs[i]?.getD []))
  rw [hc] at h
  rw [h]
  congr 1
  unfold cnB
  have e1 : bs.drop i = bs[i]?.getD [] :: bs.drop (i + 1) := by rw [List.drop_eq_getElem_cons hi]; simp [hi]
  have e2 : bs.take (i + 1) = bs.take i ++ [bs[i]?.getD []] := by rw [List.take_add_one]; simp [hi]
  rw [e1, e2, List.map_append, List.set_append_right _ _ (by simp; omega)]
  simp [Nat.min_eq_left (Nat.le_of_lt hi)]
set_option maxRecDepth 100000 in
theorem canonical_c : ∀ (n : Nat) (t : List Int), n ≤ 100 → Lv t → t.length ≤ n → Con Try.prog 40 [.sl t.length (avs t)] (.own 2 t.length (avs (canF n t))) := by
  intro n
  induction n with
  | zero => intro t _ h1 h2; have := h1.1; omega
  | succ n ih =>
    intro t hn hLv hl
    have cB := branchesOf_c t (by omega) hLv
    have cn := brs_cnt hLv
    have bo := fun (b : List Int) hb => brs_ok hLv (b := b) hb
    have cI := fun (b : List Int) (hb : b ∈ brs t) => ih b (by omega) (bo b hb).1 (by have := (bo b hb).2; omega)
    have cl := fun (b : List Int) (hb : b ∈ brs t) => canF_len n b (bo b hb).1 (by have := (bo b hb).2; omega)
    have im := fun x (hx : x ∈ insA n (brs t)) => insA_mem hx
    have il : (insA n (brs t)).length = (brs t).length := by have := (insA_perm n (brs t)).length_eq; simpa using this
    have xl : ∀ x ∈ insA n (brs t), x.length ≤ 100 ∧ ∀ y ∈ x, 0 ≤ y ∧ y ≤ 1000 := fun x hx => by
      obtain ⟨b, hb, rfl⟩ := im x hx
      have := (bo b hb).2
      exact ⟨by rw [cl b hb]; omega, fun y hy => by have := canF_val n b y hy; omega⟩
    have cS := sortTrees_c ((brs t).map (canF n)) (insA n (brs t)) (insA_perm n (brs t)).symm (insA_dsc n _) (fun x hx => by have := (xl x hx).1; omega) (by omega)
    have cR := rootOn_c (insA n (brs t)) (by omega) (fun b hb => ⟨by have := (xl b hb).1; omega, (xl b hb).2⟩)
    have rl : (rootL (insA n (brs t))).length = t.length := canF_len (n + 1) t hLv hl
    have e1 : canF (n + 1) t = rootL (insA n (brs t)) := rfl
    rw [e1]
    rw [rl, il] at cR
    rw [List.length_map] at cS
    clear rl e1 xl im
    generalize insA n (brs t) = S at *
    refine con_of_vc Try.mixed ⟨6, [], [53], []⟩ Try.func40 (by decide) rfl (by simp) (by decide) (by simp [freshOK, freshL, go_sem]) ?_
    rw [Try.ntmps40]
    simp [go_sem]
    refine CallVC.of (cB) (by decide) ?_
    simp [go_sem]
    generalize brs t = bs at *
    refine loop_invA (3 :: 4 :: 5 :: 8 :: List.range' 10 11) (4 :: 5 :: List.range' 11 10) (fun i : Nat => [(3, .own 22 bs.length (omat (cnB n bs i))), (8, .bor 3 []), (10, .int i)]) (fun i => i ≤ bs.length) (fun i => bs.length - i) 0 (by intro x i h1 h2; have : i = 3 ∨ i = 8 ∨ i = 10 := (by simp at h1 h2; omega); rcases this with rfl | rfl | rfl <;> rfl) (by intro i h; simp at h ⊢; omega) (by simp) (by simp [go_sem, cnB_zero]) (by simp [go_sem, kl]) ?_
    intro i hi
    by_cases hib : i < bs.length
    · have hii : (i : Int) < bs.length := by omega
      have gt := cnB_at n hib
      have st := cnB_set n hib (cl _ (by simp [hib]))
      have cc := cI (bs[i]?.getD []) (by simp [hib])
      generalize bs[i]?.getD [] = b at *
      simp [go_sem, hii, gt]
      have cbl : i < (cnB n bs i).length := by simp [cnB]; omega
      refine CallVC.of (cc) (by decide) ?_
      simp [go_sem]
      exact ⟨hib, cbl, ⟨by omega, by omega⟩, i + 1, by omega, by omega, Off_reset _ _ _ (by simp), ⟨st, by omega⟩, by simp [kl]⟩
    · have e : i = bs.length := by omega
      subst e
      have hii : ¬ (bs.length : Int) < bs.length := by omega
      rw [cnB_all]
      simp [go_sem, hii]
      refine ⟨_, _, cS, ?_⟩
      simp [go_sem]
      refine CallVC.of (cR) (by decide) ?_
      simp [go_sem]
end Go.Proofs.Ytoeikpioonlmfaa


namespace Go.Proofs.Ytoeikpioonlmfaa
open Go.Abs
set_option linter.unusedSectionVars false
set_option linter.unusedVariables false
set_option linter.unusedSimpArgs false
set_option maxHeartbeats 1000000
@[go_sem] theorem klW_bor (W : List Nat) (s : Nat) (p : List Nat) : kl W (.bor s p) = if W.contains s then .any else .bor s p := by rw [kl]
@[go_sem] theorem klW_ptr (W : List Nat) (s : Nat) (p : List Nat) (o : Nat) : kl W (.ptr s p o) = if W.contains s then .any else .ptr s p o := by rw [kl]
end Go.Proofs.Ytoeikpioonlmfaa


namespace Go.Proofs.Ytoeikpioonlmfaa
open Go.Abs
set_option linter.unusedSectionVars false
set_option linter.unusedVariables false
set_option linter.unusedSimpArgs false
set_option maxHeartbeats 1000000
def stE (A : List (List Int)) (B : List Int) (z : Int) (f : List (List Mon)) (y : List Int) : Int := if (tabB A B && fieldB z f) = false then 1 else if vecB z y = false then 2 else 0
theorem checkStep_c (A : List (List Int)) (B : List Int) (z : Int) (f : List (List Mon)) (y : List Int) (hA : A.length ≤ 1048576) (hB : B.length ≤ 1048576) (hr : ∀ r ∈ A, r.length ≤ 1048576) (hs : Small f) (hy : y.length ≤ 1048576) :
    Con Try.prog 22 [.agg [.sl A.length (mat A), .sl B.length (avs B)], .agg [.int z, .sl f.length (prt f)], .sl y.length (avs y)] (.int (stE A B z f y)) := by
  have cA := IsTableau_c A B (by omega) (by omega) (fun r h => by have := hr r h; omega)
  have cT := IsField_c z f hs
  have cR := isVector_c z f.length (prt f) y (by omega)
  unfold stE
  generalize tabB A B = a at *
  generalize fieldB z f = b at *
  generalize vecB z y = c at *
  cases a <;> cases b <;> cases c
  all_goals simp only [Bool.and_self, Bool.and_false, Bool.false_and, Bool.true_and, Bool.false_eq_true, if_true, if_false, reduceCtorEq]
  · refine con_of_vc Try.mixed ⟨7, [], [], []⟩ Try.func22 (by decide) rfl (by simp) (by decide) (by simp [freshOK, freshL, go_sem]) ?_
    rw [Try.ntmps22]
    simp [go_sem]
    refine CallVC.of (cA) (by decide) ?_
    simp [go_sem]
  · refine con_of_vc Try.mixed ⟨7, [], [], []⟩ Try.func22 (by decide) rfl (by simp) (by decide) (by simp [freshOK, freshL, go_sem]) ?_
    rw [Try.ntmps22]
    simp [go_sem]
    refine CallVC.of (cA) (by decide) ?_
    simp [go_sem]
  · refine con_of_vc Try.mixed ⟨7, [], [], []⟩ Try.func22 (by decide) rfl (by simp) (by decide) (by simp [freshOK, freshL, go_sem]) ?_
    rw [Try.ntmps22]
    simp [go_sem]
    refine CallVC.of (cA) (by decide) ?_
    simp [go_sem]
  · refine con_of_vc Try.mixed ⟨7, [], [], []⟩ Try.func22 (by decide) rfl (by simp) (by decide) (by simp [freshOK, freshL, go_sem]) ?_
    rw [Try.ntmps22]
    simp [go_sem]
    refine CallVC.of (cA) (by decide) ?_
    simp [go_sem]
  · refine con_of_vc Try.mixed ⟨7, [], [], []⟩ Try.func22 (by decide) rfl (by simp) (by decide) (by simp [freshOK, freshL, go_sem]) ?_
    rw [Try.ntmps22]
    simp [go_sem]
    refine CallVC.of (cA) (by decide) ?_
    simp [go_sem]
    refine CallVC.of (cT) (by decide) ?_
    simp [go_sem]
  · refine con_of_vc Try.mixed ⟨7, [], [], []⟩ Try.func22 (by decide) rfl (by simp) (by decide) (by simp [freshOK, freshL, go_sem]) ?_
    rw [Try.ntmps22]
    simp [go_sem]
    refine CallVC.of (cA) (by decide) ?_
    simp [go_sem]
    refine CallVC.of (cT) (by decide) ?_
    simp [go_sem]
  · refine con_of_vc Try.mixed ⟨7, [], [], []⟩ Try.func22 (by decide) rfl (by simp) (by decide) (by simp [freshOK, freshL, go_sem]) ?_
    rw [Try.ntmps22]
    simp [go_sem]
    refine CallVC.of (cA) (by decide) ?_
    simp [go_sem]
    refine CallVC.of (cT) (by decide) ?_
    simp [go_sem]
    refine CallVC.of (cR) (by decide) ?_
    simp [go_sem]
  · refine con_of_vc Try.mixed ⟨7, [], [], []⟩ Try.func22 (by decide) rfl (by simp) (by decide) (by simp [freshOK, freshL, go_sem]) ?_
    rw [Try.ntmps22]
    simp [go_sem]
    refine CallVC.of (cA) (by decide) ?_
    simp [go_sem]
    refine CallVC.of (cT) (by decide) ?_
    simp [go_sem]
    refine CallVC.of (cR) (by decide) ?_
    simp [go_sem]
end Go.Proofs.Ytoeikpioonlmfaa


namespace Go.Proofs.Ytoeikpioonlmfaa
open Go.Abs
set_option linter.unusedSectionVars false
set_option linter.unusedVariables false
theorem small_of {f : List (List Mon)} (h : (cF f : Int) ≤ 1048576) : Small f := by
  unfold cF at h
  refine ⟨by omega, fun p hp => ?_⟩
  have h1 : p.length + sumC cM p ≤ sumC cP f := sumC_mem cP hp
  refine ⟨by omega, fun q hq => ?_⟩
  have h2 : q.2.length ≤ sumC cM p := sumC_mem cM hq
  omega
theorem szT_hi {A : List (List Int)} {B : List Int} {left : Int} (h0 : 0 ≤ left) : szT A B left ≤ left := by
  unfold szT
  split
  · omega
  · rename_i h
    have := (szM_ok h0 (by omega : 0 ≤ szM left A)).2.1
    have := szR_le (left := szM left A) (n := (B.length : Int)) (by omega) (by omega)
    omega
end Go.Proofs.Ytoeikpioonlmfaa


namespace Go.Proofs.Ytoeikpioonlmfaa
open Go.Abs
set_option linter.unusedSectionVars false
set_option linter.unusedVariables false
set_option linter.unusedSimpArgs false
set_option maxHeartbeats 2000000
set_option maxRecDepth 100000 in
theorem slEqual_c (a b : List Int) (ha : a.length ≤ 9223372036854775807) : Con Try.prog 39 [.sl a.length (avs a), .sl b.length (avs b)] (.bool (decide (a = b))) := by
  by_cases hl : a.length = b.length
  · have hi : (a.length : Int) = b.length := by omega
    refine con_of_vc Try.mixed ⟨7, [], [], []⟩ Try.func39 (by decide) rfl (by simp) (by decide) (by simp [freshOK, freshL, go_sem]) ?_
    rw [Try.ntmps39]
    simp [go_sem, hi]
    refine loop_inv (4 :: 5 :: List.range' 13 13) (fun i : Nat => [(13, .int i)]) (fun i => i ≤ b.length ∧ a.take i = b.take i) (fun i => b.length - i) 0 (by simp) (by simp [go_sem]) (by simp [go_sem]) ?_
    intro i hi
    simp [go_sem]
    refine ⟨fun h => ?_, fun h => ?_⟩ <;> simp at h
    · have h2 : i < a.length := by omega
      simp [go_sem, avs_drop h, avs_drop h2]
      refine ⟨by kernel_rfl, ⟨h2, by rintro rfl; simp at h2⟩, ⟨h, by rintro rfl; simp at h⟩, ?_⟩
      refine ⟨by kernel_rfl, ?_⟩
      simp [go_sem]
      refine ⟨fun h3 => ?_, fun h3 => ?_⟩ <;> simp at h3 <;> simp [go_sem]
      · rintro rfl; exact h3 rfl
      · refine ⟨by omega, i + 1, ⟨by omega, ?_⟩, by omega, Off_reset _ _ _ (by simp), by omega⟩
        rw [List.take_add_one, List.take_add_one, hi.2]
        rw [List.getElem?_eq_getElem h, List.getElem?_eq_getElem h2] at h3 ⊢
        simp only [Option.getD_some] at h3
        rw [h3]
    · simp [go_sem]
      have e : i = b.length := by omega
      subst e
      have := hi.2
      rw [List.take_length, ← hl, List.take_length] at this
      exact this
  · have e : decide (a = b) = false := by
      rw [decide_eq_false_iff_not]; intro h; exact hl (by rw [h])
    rw [e]
    have hi : ¬ (a.length : Int) = b.length := by omega
    refine con_of_vc Try.mixed ⟨7, [], [], []⟩ Try.func39 (by decide) rfl (by simp) (by decide) (by simp [freshOK, freshL, go_sem]) ?_
    rw [Try.ntmps39]
    simp [go_sem, hi]
def treB (t : List Int) : Bool := lvB t && decide (canF t.length t = t)
theorem lvB_Lv {t : List Int} (h : lvB t = true) : Lv t ∧ t.length ≤ 8 := by
  unfold lvB at h
  simp only [Bool.and_eq_true, decide_eq_true_eq] at h
  exact ⟨lv0_Lv h.1, h.2⟩
set_option maxRecDepth 100000 in
theorem IsTree_c (t : List Int) (ht : t.length ≤ 1048576) : Con Try.prog 20 [.sl t.length (avs t)] (.bool (treB t)) := by
  have cL := IsLevels_c t ht
  unfold treB
  cases h : lvB t with
  | false =>
    rw [h] at cL
    refine con_of_vc Try.mixed ⟨3, [], [], []⟩ Try.func20 (by decide) rfl (by simp) (by decide) (by simp [freshOK, freshL, go_sem]) ?_
    rw [Try.ntmps20]
    simp [go_sem]
    refine CallVC.of (cL) (by decide) ?_
    simp [go_sem]
  | true =>
    rw [h] at cL
    obtain ⟨h1, h2⟩ := lvB_Lv h
    have cC := canonical_c t.length t (by omega) h1 (Nat.le_refl _)
    have cE := slEqual_c (canF t.length t) t (by rw [canF_len _ _ h1 (Nat.le_refl _)]; omega)
    rw [canF_len _ _ h1 (Nat.le_refl _)] at cE
    refine con_of_vc Try.mixed ⟨3, [], [], []⟩ Try.func20 (by decide) rfl (by simp) (by decide) (by simp [freshOK, freshL, go_sem]) ?_
    rw [Try.ntmps20]
    simp [go_sem]
    refine CallVC.of (cL) (by decide) ?_
    simp [go_sem]
    refine CallVC.of (cC) (by decide) ?_
    simp [go_sem]
    refine CallVC.of (cE) (by decide) ?_
    simp [go_sem]
set_option maxRecDepth 100000 in
theorem specIsTree_c (t : List Int) (ht : t.length ≤ 1048576) : Con Try.prog 12 [.sl t.length (avs t)] (.bool (treB t)) := by
  have cL := l03Is_c t ht
  unfold treB
  cases h : lvB t with
  | false =>
    rw [h] at cL
    refine con_of_vc Try.mixed ⟨3, [], [], []⟩ Try.func12 (by decide) rfl (by simp) (by decide) (by simp [freshOK, freshL, go_sem]) ?_
    rw [Try.ntmps12]
    simp [go_sem]
    refine CallVC.of (cL) (by decide) ?_
    simp [go_sem]
  | true =>
    rw [h] at cL
    obtain ⟨h1, h2⟩ := lvB_Lv h
    have cC := l03Canon_c t.length t (by omega) h1 (Nat.le_refl _)
    have cE := l01Same_c (canF t.length t) t (by rw [canF_len _ _ h1 (Nat.le_refl _)]; omega)
    rw [canF_len _ _ h1 (Nat.le_refl _)] at cE
    refine con_of_vc Try.mixed ⟨3, [], [], []⟩ Try.func12 (by decide) rfl (by simp) (by decide) (by simp [freshOK, freshL, go_sem]) ?_
    rw [Try.ntmps12]
    simp [go_sem]
    refine CallVC.of (cL) (by decide) ?_
    simp [go_sem]
    refine CallVC.of (cC) (by decide) ?_
    simp [go_sem]
    refine CallVC.of (cE) (by decide) ?_
    simp [go_sem]
def mapB (a : List Int) : Bool := decide (a.length = 38) && numsB a
def chaB (a : List Int) : Bool := mapB a && decide (a[0]?.getD 0 = 1)
set_option maxRecDepth 100000 in
theorem IsMap_c (a : List Int) (ha : a.length ≤ 9223372036854775807) : Con Try.prog 41 [.sl a.length (avs a)] (.bool (mapB a)) := by
  have cN := areNumbers_c a ha
  unfold mapB
  by_cases h : a.length = 38
  · have hi : (a.length : Int) = 38 := by omega
    rw [decide_eq_true h]
    refine con_of_vc Try.mixed ⟨3, [], [], []⟩ Try.func41 (by decide) rfl (by simp) (by decide) (by simp [freshOK, freshL, go_sem]) ?_
    rw [Try.ntmps41]
    simp [go_sem, hi]
    refine CallVC.of (cN) (by decide) ?_
    simp [go_sem]
  · have hi : ¬ (a.length : Int) = 38 := by omega
    rw [decide_eq_false h]
    refine con_of_vc Try.mixed ⟨3, [], [], []⟩ Try.func41 (by decide) rfl (by simp) (by decide) (by simp [freshOK, freshL, go_sem]) ?_
    rw [Try.ntmps41]
    simp [go_sem, hi]
set_option maxRecDepth 100000 in
theorem l07Is_c (a : List Int) (ha : a.length ≤ 9223372036854775807) : Con Try.prog 31 [.sl a.length (avs a)] (.bool (mapB a)) := by
  have cN := l01Numbers_c a ha
  unfold mapB
  by_cases h : a.length = 38
  · have hi : (a.length : Int) = 38 := by omega
    rw [decide_eq_true h]
    refine con_of_vc Try.mixed ⟨3, [], [], []⟩ Try.func31 (by decide) rfl (by simp) (by decide) (by simp [freshOK, freshL, go_sem]) ?_
    rw [Try.ntmps31]
    simp [go_sem, hi]
    refine CallVC.of (cN) (by decide) ?_
    simp [go_sem]
  · have hi : ¬ (a.length : Int) = 38 := by omega
    rw [decide_eq_false h]
    refine con_of_vc Try.mixed ⟨3, [], [], []⟩ Try.func31 (by decide) rfl (by simp) (by decide) (by simp [freshOK, freshL, go_sem]) ?_
    rw [Try.ntmps31]
    simp [go_sem, hi]
set_option maxRecDepth 100000 in
theorem IsCharacter_c (a : List Int) (ha : a.length ≤ 9223372036854775807) : Con Try.prog 21 [.sl a.length (avs a)] (.bool (chaB a)) := by
  have cM := IsMap_c a ha
  unfold chaB
  cases h : mapB a with
  | false =>
    rw [h] at cM
    refine con_of_vc Try.mixed ⟨3, [], [], []⟩ Try.func21 (by decide) rfl (by simp) (by decide) (by simp [freshOK, freshL, go_sem]) ?_
    rw [Try.ntmps21]
    simp [go_sem]
    refine CallVC.of (cM) (by decide) ?_
    simp [go_sem]
  | true =>
    rw [h] at cM
    have h38 : a.length = 38 := by unfold mapB at h; simp at h; exact h.1
    have ad := avs_drop (xs := a) (k := 0) (by omega)
    rw [List.drop_zero, List.getD_eq_getElem?_getD] at ad
    refine con_of_vc Try.mixed ⟨3, [], [], []⟩ Try.func21 (by decide) rfl (by simp) (by decide) (by simp [freshOK, freshL, go_sem]) ?_
    rw [Try.ntmps21]
    simp [go_sem]
    refine CallVC.of (cM) (by decide) ?_
    simp [go_sem]
    refine ⟨⟨by omega, by rintro rfl; simp at h38⟩, ?_⟩
    rw [ad]
    simp [go_sem]
set_option maxRecDepth 100000 in
theorem specIsCharacter_c (a : List Int) (ha : a.length ≤ 9223372036854775807) : Con Try.prog 13 [.sl a.length (avs a)] (.bool (chaB a)) := by
  have cM := l07Is_c a ha
  unfold chaB
  cases h : mapB a with
  | false =>
    rw [h] at cM
    refine con_of_vc Try.mixed ⟨3, [], [], []⟩ Try.func13 (by decide) rfl (by simp) (by decide) (by simp [freshOK, freshL, go_sem]) ?_
    rw [Try.ntmps13]
    simp [go_sem]
    refine CallVC.of (cM) (by decide) ?_
    simp [go_sem]
  | true =>
    rw [h] at cM
    have h38 : a.length = 38 := by unfold mapB at h; simp at h; exact h.1
    have ad := avs_drop (xs := a) (k := 0) (by omega)
    rw [List.drop_zero, List.getD_eq_getElem?_getD] at ad
    refine con_of_vc Try.mixed ⟨3, [], [], []⟩ Try.func13 (by decide) rfl (by simp) (by decide) (by simp [freshOK, freshL, go_sem]) ?_
    rw [Try.ntmps13]
    simp [go_sem]
    refine CallVC.of (cM) (by decide) ?_
    simp [go_sem]
    refine ⟨⟨by omega, by rintro rfl; simp at h38⟩, ?_⟩
    rw [ad]
    simp [go_sem]
end Go.Proofs.Ytoeikpioonlmfaa


namespace Go.Proofs.Ytoeikpioonlmfaa
open Go.Abs
set_option linter.unusedSectionVars false
set_option linter.unusedVariables false
set_option linter.unusedSimpArgs false
set_option maxHeartbeats 4000000
def dsk (t mp : List Int) (A : List (List Int)) (B : List Int) (z : Int) (f : List (List Mon)) (y : List Int) : AV :=
  .agg [.sl t.length (avs t), .sl mp.length (avs mp), .sl A.length (mat A), .sl B.length (avs B), .int z, .sl f.length (prt f), .sl y.length (avs y)]
def szD (t mp : List Int) (A : List (List Int)) (B : List Int) (f : List (List Mon)) (y : List Int) (left : Int) : Int :=
  if szR left t.length < 0 then -1 else if szR (szR left t.length) mp.length < 0 then -1 else
  if szT A B (szR (szR left t.length) mp.length) < 0 then -1 else if szF (szT A B (szR (szR left t.length) mp.length)) f < 0 then -1 else
  szR (szF (szT A B (szR (szR left t.length) mp.length)) f) y.length
set_option maxRecDepth 100000 in
theorem szDesk_c (t mp : List Int) (A : List (List Int)) (B : List Int) (z : Int) (f : List (List Mon)) (y : List Int) (left : Int) (ht : t.length ≤ 9223372036854775807) (hm : mp.length ≤ 9223372036854775807)
    (hA : A.length ≤ 9223372036854775807) (hr : ∀ r ∈ A, r.length ≤ 9223372036854775807) (hB : B.length ≤ 9223372036854775807) (hf : Fit f) (hy : y.length ≤ 9223372036854775807) (h0 : 0 ≤ left) (h1 : left ≤ 9223372036854775807) :
    Con Try.prog 4 [dsk t mp A B z f y, .int left] (.int (szD t mp A B f y left)) := by
  unfold dsk szD
  have c1 := szInt64S_c t.length (avs t) left ht (by omega) h1
  have g1 := szR_ge left t.length
  have k1 := szR_le (left := left) (n := (t.length : Int)) (by omega) (by omega)
  generalize szR left t.length = l1 at *
  refine con_of_vc Try.mixed ⟨5, [], [], []⟩ Try.func4 (by decide) rfl (by simp) (by decide) (by simp [freshOK, freshL, go_sem]) ?_
  rw [Try.ntmps4]
  simp [go_sem]
  refine CallVC.of (c1) (by decide) ?_
  simp [go_sem]
  by_cases e1 : l1 < 0
  · simp [go_sem, e1]
  have c2 := szInt64S_c mp.length (avs mp) l1 hm (by omega) (by omega)
  have g2 := szR_ge l1 mp.length
  have k2 := szR_le (left := l1) (n := (mp.length : Int)) (by omega) (by omega)
  generalize szR l1 mp.length = l2 at *
  simp [go_sem, e1]
  refine CallVC.of (c2) (by decide) ?_
  simp [go_sem]
  by_cases e2 : l2 < 0
  · simp [go_sem, e2]
  have c3 := szTableau_c A B l2 hA hr hB (by omega) (by omega)
  have k3 : 0 ≤ szT A B l2 → szT A B l2 ≤ l2 := fun h => by have := (szT_ok (by omega) h).1; have := szT_hi (A := A) (B := B) (left := l2) (by omega); omega
  generalize szT A B l2 = l3 at *
  simp [go_sem, e2]
  refine CallVC.of (c3) (by decide) ?_
  simp [go_sem]
  by_cases e3 : l3 < 0
  · simp [go_sem, e3]
  have c4 := szField_c z f l3 hf (by omega) (by omega)
  have k4 := szF_ok.hi l3 f (by omega)
  generalize szF l3 f = l4 at *
  simp [go_sem, e3]
  refine CallVC.of (c4) (by decide) ?_
  simp [go_sem]
  by_cases e4 : l4 < 0
  · simp [go_sem, e4]
  have c5 := szInt64S_c y.length (avs y) l4 hy (by omega) (by omega)
  have g5 := szR_ge l4 y.length
  generalize szR l4 y.length = l5 at *
  simp [go_sem, e4]
  refine CallVC.of (c5) (by decide) ?_
  simp [go_sem]
  by_cases e5 : l5 < 0
  · simp [go_sem, e5]
    omega
  · simp [go_sem, e5]
set_option maxRecDepth 100000 in
theorem toDesk_c (t mp : List Int) (A : List (List Int)) (B : List Int) (z : Int) (f : List (List Mon)) (y : List Int) (ht : t.length ≤ 1048576) (hm : mp.length ≤ 1048576)
    (hA : A.length ≤ 1048576) (hr : ∀ r ∈ A, r.length ≤ 1048576) (hB : B.length ≤ 1048576) (hs : Small f) (hy : y.length ≤ 1048576) :
    Con Try.prog 6 [dsk t mp A B z f y] (.agg [.own 2 t.length (avs t), .own 2 mp.length (avs mp), .own 22 A.length (omat A), .own 2 B.length (avs B), .int z, .own 59 f.length (oprt f), .own 2 y.length (avs y)]) := by
  unfold dsk
  refine con_of_vc Try.mixed ⟨4, [], [], []⟩ Try.func6 (by decide) rfl (by simp) (by decide) (by simp [freshOK, freshL, go_sem]) ?_
  rw [Try.ntmps6]
  simp [go_sem]
  refine CallVC.of (toInt64S_c t ht) (by decide) ?_
  simp [go_sem]
  refine CallVC.of (toInt64S_c mp hm) (by decide) ?_
  simp [go_sem]
  refine CallVC.of (toTableau_c A B hA hr hB) (by decide) ?_
  simp [go_sem]
  refine CallVC.of (toField_c z f hs.1 hs.2) (by decide) ?_
  simp [go_sem]
  refine CallVC.of (toInt64S_c y hy) (by decide) ?_
  simp [go_sem]
set_option maxRecDepth 100000 in
theorem eqDesk_c (t mp : List Int) (A : List (List Int)) (B : List Int) (z : Int) (f : List (List Mon)) (y : List Int) (ht : t.length ≤ 9223372036854775807) (hm : mp.length ≤ 9223372036854775807)
    (hA : A.length ≤ 9223372036854775807) (hr : ∀ r ∈ A, r.length ≤ 9223372036854775807) (hB : B.length ≤ 9223372036854775807) (hf : Fit f) (hy : y.length ≤ 9223372036854775807) :
    Con Try.prog 8 [dsk t mp A B z f y, dsk t mp A B z f y] (.bool true) := by
  unfold dsk
  have c1 := eqInt64S_c t t ht
  have c2 := eqInt64S_c mp mp hm
  have c3 := eqTableau_c A A B B hA hr hB
  have c4 := eqField_c z f hf
  have c5 := eqInt64S_c y y hy
  simp at c1 c2 c3 c4 c5
  refine con_of_vc Try.mixed ⟨5, [], [], []⟩ Try.func8 (by decide) rfl (by simp) (by decide) (by simp [freshOK, freshL, go_sem]) ?_
  rw [Try.ntmps8]
  simp [go_sem]
  refine CallVC.of (c1) (by decide) ?_
  simp [go_sem]
  refine CallVC.of (c2) (by decide) ?_
  simp [go_sem]
  refine CallVC.of (c3) (by decide) ?_
  simp [go_sem]
  refine CallVC.of (c4) (by decide) ?_
  simp [go_sem]
  refine CallVC.of (c5) (by decide) ?_
  simp [go_sem]
def dskB (t mp : List Int) (A : List (List Int)) (B : List Int) (z : Int) (f : List (List Mon)) (y : List Int) : Bool :=
  treB t && chaB mp && tabB A B && fieldB z f && vecB z y
theorem stE_0 (A : List (List Int)) (B : List Int) (z : Int) (f : List (List Mon)) (y : List Int) : decide (stE A B z f y = 0) = (tabB A B && fieldB z f && vecB z y) := by
  unfold stE
  cases tabB A B <;> cases fieldB z f <;> cases vecB z y <;> decide
set_option maxRecDepth 100000 in
theorem IsDesk_c (t mp : List Int) (A : List (List Int)) (B : List Int) (z : Int) (f : List (List Mon)) (y : List Int) (ht : t.length ≤ 1048576) (hm : mp.length ≤ 1048576)
    (hA : A.length ≤ 1048576) (hr : ∀ r ∈ A, r.length ≤ 1048576) (hB : B.length ≤ 1048576) (hs : Small f) (hy : y.length ≤ 1048576) :
    Con Try.prog 7 [dsk t mp A B z f y] (.bool (dskB t mp A B z f y)) := by
  unfold dsk
  have e : dskB t mp A B z f y = (treB t && chaB mp && decide (stE A B z f y = 0)) := by
    unfold dskB; rw [stE_0]; simp only [Bool.and_assoc]
  rw [e]
  have cT := IsTree_c t ht
  have cC := IsCharacter_c mp (by omega)
  have cS := checkStep_c A B z f y hA hB hr hs hy
  generalize stE A B z f y = e at cS ⊢
  cases h1 : treB t with
  | false =>
    rw [h1] at cT
    refine con_of_vc Try.mixed ⟨3, [], [], []⟩ Try.func7 (by decide) rfl (by simp) (by decide) (by simp [freshOK, freshL, go_sem]) ?_
    rw [Try.ntmps7]
    simp [go_sem]
    refine CallVC.of (cT) (by decide) ?_
    simp [go_sem]
  | true =>
    rw [h1] at cT
    cases h2 : chaB mp with
    | false =>
      rw [h2] at cC
      refine con_of_vc Try.mixed ⟨3, [], [], []⟩ Try.func7 (by decide) rfl (by simp) (by decide) (by simp [freshOK, freshL, go_sem]) ?_
      rw [Try.ntmps7]
      simp [go_sem]
      refine CallVC.of (cT) (by decide) ?_
      simp [go_sem]
      refine CallVC.of (cC) (by decide) ?_
      simp [go_sem]
    | true =>
      rw [h2] at cC
      refine con_of_vc Try.mixed ⟨3, [], [], []⟩ Try.func7 (by decide) rfl (by simp) (by decide) (by simp [freshOK, freshL, go_sem]) ?_
      rw [Try.ntmps7]
      simp [go_sem]
      refine CallVC.of (cT) (by decide) ?_
      simp [go_sem]
      refine CallVC.of (cC) (by decide) ?_
      simp [go_sem]
      refine CallVC.of (cS) (by decide) ?_
      simp [go_sem]
set_option maxRecDepth 100000 in
theorem specIsDesk_c (t mp : List Int) (A : List (List Int)) (B : List Int) (z : Int) (f : List (List Mon)) (y : List Int) (ht : t.length ≤ 1048576) (hm : mp.length ≤ 1048576)
    (hA : A.length ≤ 1048576) (hr : ∀ r ∈ A, r.length ≤ 1048576) (hB : B.length ≤ 1048576) (hs : Small f) (hy : y.length ≤ 1048576) :
    Con Try.prog 5 [dsk t mp A B z f y] (.bool (dskB t mp A B z f y)) := by
  unfold dsk dskB
  have c1 := specIsTree_c t ht
  have c2 := specIsCharacter_c mp (by omega)
  have c3 := l09Is_c A B (by omega) (by omega) (fun r h => by have := hr r h; omega)
  have c4 := l13Is_c z f hs
  have c5 := l13Point_c z y (by omega)
  have hvb : (decide ((y.length : Int) = z) && numsB y) = vecB z y := rfl
  rw [hvb] at c5
  cases h1 : treB t with
  | false =>
    rw [h1] at c1
    refine con_of_vc Try.mixed ⟨3, [], [], []⟩ Try.func5 (by decide) rfl (by simp) (by decide) (by simp [freshOK, freshL, go_sem]) ?_
    rw [Try.ntmps5]
    simp [go_sem]
    refine CallVC.of (c1) (by decide) ?_
    simp [go_sem]
  | true =>
    rw [h1] at c1
    cases h2 : chaB mp with
    | false =>
      rw [h2] at c2
      refine con_of_vc Try.mixed ⟨3, [], [], []⟩ Try.func5 (by decide) rfl (by simp) (by decide) (by simp [freshOK, freshL, go_sem]) ?_
      rw [Try.ntmps5]
      simp [go_sem]
      refine CallVC.of (c1) (by decide) ?_
      simp [go_sem]
      refine CallVC.of (c2) (by decide) ?_
      simp [go_sem]
    | true =>
      rw [h2] at c2
      cases h3 : tabB A B with
      | false =>
        rw [h3] at c3
        refine con_of_vc Try.mixed ⟨3, [], [], []⟩ Try.func5 (by decide) rfl (by simp) (by decide) (by simp [freshOK, freshL, go_sem]) ?_
        rw [Try.ntmps5]
        simp [go_sem]
        refine CallVC.of (c1) (by decide) ?_
        simp [go_sem]
        refine CallVC.of (c2) (by decide) ?_
        simp [go_sem]
        refine CallVC.of (c3) (by decide) ?_
        simp [go_sem]
      | true =>
        rw [h3] at c3
        cases h4 : fieldB z f with
        | false =>
          rw [h4] at c4
          refine con_of_vc Try.mixed ⟨3, [], [], []⟩ Try.func5 (by decide) rfl (by simp) (by decide) (by simp [freshOK, freshL, go_sem]) ?_
          rw [Try.ntmps5]
          simp [go_sem]
          refine CallVC.of (c1) (by decide) ?_
          simp [go_sem]
          refine CallVC.of (c2) (by decide) ?_
          simp [go_sem]
          refine CallVC.of (c3) (by decide) ?_
          simp [go_sem]
          refine CallVC.of (c4) (by decide) ?_
          simp [go_sem]
        | true =>
          rw [h4] at c4
          refine con_of_vc Try.mixed ⟨3, [], [], []⟩ Try.func5 (by decide) rfl (by simp) (by decide) (by simp [freshOK, freshL, go_sem]) ?_
          rw [Try.ntmps5]
          simp [go_sem]
          refine CallVC.of (c1) (by decide) ?_
          simp [go_sem]
          refine CallVC.of (c2) (by decide) ?_
          simp [go_sem]
          refine CallVC.of (c3) (by decide) ?_
          simp [go_sem]
          refine CallVC.of (c4) (by decide) ?_
          simp [go_sem]
          refine CallVC.of (c5) (by decide) ?_
          simp [go_sem]
end Go.Proofs.Ytoeikpioonlmfaa


namespace Go.Proofs.Ytoeikpioonlmfaa
open Go.ChangeShapes Go.WideShapes Go.ChangeAt Go.RowKit Go.Abs Go.Deep
set_option linter.unusedSectionVars false
set_option linter.unusedVariables false
section
variable {H : Type} {enc : TypeId × Value → H} {w : World} {sp : Nat → Bool} {held : Bool} {base : Nat}
theorem list7 {α : Type} {cs : List α} (h : cs.length = 7) : ∃ c0 c1 c2 c3 c4 c5 c6, cs = [c0, c1, c2, c3, c4, c5, c6] := by
  match cs, h with
  | [c0, c1, c2, c3, c4, c5, c6], _ => exact ⟨c0, c1, c2, c3, c4, c5, c6, rfl⟩
theorem list5 {α : Type} {cs : List α} (h : cs.length = 5) : ∃ c0 c1 c2 c3 c4, cs = [c0, c1, c2, c3, c4] := by
  match cs, h with
  | [c0, c1, c2, c3, c4], _ => exact ⟨c0, c1, c2, c3, c4, rfl⟩
set_option maxRecDepth 100000 in
theorem open_desk {r : Reach} {b0 : Nat} {v : Value} {d : DataW H} {p : List MemPlace} (hv : Value.okWide Try.prog w r b0 30 v) (h : DataW.Trod enc Try.prog w base sp held 30 v d p) :
    ∃ (t mp : List Int) (A : List (List Int)) (B : List Int) (z : Int) (f : List (List Mon)) (y : List Int), t.length ≤ 9223372036854775807 ∧ mp.length ≤ 9223372036854775807 ∧ A.length ≤ 9223372036854775807 ∧
      (∀ r ∈ A, r.length ≤ 9223372036854775807) ∧ B.length ≤ 9223372036854775807 ∧ Fit f ∧ y.length ≤ 9223372036854775807 ∧ ∀ tm oss, RepT Try.prog w (fun b => b < w.heap.size) tm oss (dsk t mp A B z f y) v [] := by
  have hC : Try.prog.cellsOf 30 = 7 := by kernel_rfl
  have hC1 : Try.prog.cellsOf 25 = 2 := by kernel_rfl
  have hC2 : Try.prog.cellsOf 28 = 2 := by kernel_rfl
  have hC3 : Try.prog.cellsOf 22 = 1 := by kernel_rfl
  obtain ⟨cs, rfl, hsz⟩ := okWide_struct Try.underlying30 hv
  obtain ⟨fuel, hf⟩ := h
  obtain ⟨xs, n, _, hx, _, hlen, hfs⟩ := DataW.trod_struct Try.underlying30 hf
  obtain ⟨y0, y1, y2, y3, y4, rfl⟩ := list5 (cs := xs) hlen
  obtain ⟨l⟩ := cs
  obtain ⟨c0, c1, c2, c3, c4, c5, c6, rfl⟩ := list7 (cs := l) (hsz.trans hC)
  have k0 : DataW.trod enc Try.prog w base sp held n 22 (([c0, c1, c2, c3, c4, c5, c6].drop 0).take (Try.prog.cellsOf 22)) = some y0 := hfs 0 _ rfl
  have k1 : DataW.trod enc Try.prog w base sp held n 22 (([c0, c1, c2, c3, c4, c5, c6].drop 1).take (Try.prog.cellsOf 22)) = some y1 := hfs 1 _ rfl
  have k2 : DataW.trod enc Try.prog w base sp held n 25 (([c0, c1, c2, c3, c4, c5, c6].drop 2).take (Try.prog.cellsOf 25)) = some y2 := hfs 2 _ rfl
  have k3 : DataW.trod enc Try.prog w base sp held n 28 (([c0, c1, c2, c3, c4, c5, c6].drop 4).take (Try.prog.cellsOf 28)) = some y3 := hfs 3 _ rfl
  have k4 : DataW.trod enc Try.prog w base sp held n 22 (([c0, c1, c2, c3, c4, c5, c6].drop 6).take (Try.prog.cellsOf 22)) = some y4 := hfs 4 _ rfl
  rw [hC3] at k0 k1 k4
  rw [hC1] at k2
  rw [hC2] at k3
  obtain ⟨t, _, t1, t2, _⟩ := open_vec k0
  obtain ⟨mp, _, m1, m2, _⟩ := open_vec k1
  obtain ⟨_, _, _, _, _, e2, q0, q1⟩ := open_st2 Try.underlying25 (by kernel_rfl) hC1 k2
  obtain ⟨_, _, _, _, _, e3, r0, r1⟩ := open_st2 Try.underlying28 (by kernel_rfl) hC2 k3
  change [c2, c3] = _ at e2
  change [c4, c5] = _ at e3
  simp only [List.cons.injEq, and_true] at e2 e3
  obtain ⟨rfl, rfl⟩ := e2
  obtain ⟨rfl, rfl⟩ := e3
  obtain ⟨A, a1, a2, a3, _⟩ := open_mat q0
  obtain ⟨B, b1, b2, b3, _⟩ := open_vec q1
  obtain ⟨z, _, z1, _⟩ := open_i Try.underlying2 (F := fun b => b < w.heap.size) r0
  obtain ⟨f, f1, f2, _⟩ := open_prt r1
  obtain ⟨y, _, y1, y2, _⟩ := open_vec k4
  exact ⟨t, mp, A, B, z, f, y, t1, m1, a2, fun r hr => (a1 r hr).2, b2, f1, y1, fun tm oss => .agg _ [c0, c1, c2, c3, c4, c5, c6] [] rfl
    (.cons _ _ [] _ _ [] (rep_one t2) (.cons _ _ [] _ _ [] (rep_one m2) (.cons _ _ [] _ _ [] (rep_one a3) (.cons _ _ [] _ _ [] (rep_one b3) (.cons _ _ [] _ _ [] (rep_one z1) (.cons _ _ [] _ _ [] (rep_one f2) (.cons _ _ [] _ _ [] (rep_one y2) (.nil _))))))))⟩
end
end Go.Proofs.Ytoeikpioonlmfaa


namespace Go.Proofs.Ytoeikpioonlmfaa
open Go.Abs
set_option linter.unusedSectionVars false
set_option linter.unusedVariables false
set_option linter.unusedSimpArgs false
set_option maxHeartbeats 4000000
theorem szD_ok {t mp : List Int} {A : List (List Int)} {B : List Int} {f : List (List Mon)} {y : List Int} (h : ¬ szD t mp A B f y 1048576 < 0) :
    t.length ≤ 1048576 ∧ mp.length ≤ 1048576 ∧ A.length ≤ 1048576 ∧ (∀ r ∈ A, r.length ≤ 1048576) ∧ B.length ≤ 1048576 ∧ (cF f : Int) ≤ 1048576 ∧ y.length ≤ 1048576 := by
  unfold szD at h
  have s : ∀ l n : Int, ¬ szR l n < 0 → n ≤ l ∧ szR l n = l - n := by intro l n h; unfold szR at h ⊢; split at h <;> rename_i h1 <;> simp at h1 ⊢ <;> omega
  split at h
  · omega
  rename_i h1
  have g1 := s _ _ h1
  split at h
  · omega
  rename_i h2
  have g2 := s _ _ h2
  split at h
  · omega
  rename_i h3
  have k3 := szT_ok (A := A) (B := B) (left := szR (szR 1048576 t.length) mp.length) (by omega) (by omega)
  have j3 := szT_hi (A := A) (B := B) (left := szR (szR 1048576 t.length) mp.length) (by omega)
  split at h
  · omega
  rename_i h4
  have k4 := szF_ok.ok (szT A B (szR (szR 1048576 t.length) mp.length)) f (by omega) (by omega)
  have j4 := szF_ok.hi (szT A B (szR (szR 1048576 t.length) mp.length)) f (by omega)
  have g5 := s _ _ h
  refine ⟨by omega, by omega, by omega, fun r hr => ?_, by omega, by omega, by omega⟩
  have := k3.2 r hr
  omega
set_option maxRecDepth 100000 in
theorem law36_c (t mp : List Int) (A : List (List Int)) (B : List Int) (z : Int) (f : List (List Mon)) (y : List Int) (ht : t.length ≤ 9223372036854775807) (hm : mp.length ≤ 9223372036854775807)
    (hA : A.length ≤ 9223372036854775807) (hr : ∀ r ∈ A, r.length ≤ 9223372036854775807) (hB : B.length ≤ 9223372036854775807) (hf : Fit f) (hy : y.length ≤ 9223372036854775807) :
    Con Try.prog 3 [dsk t mp A B z f y] (.bool true) := by
  have cS := szDesk_c t mp A B z f y 1048576 ht hm hA hr hB hf hy (by omega) (by omega)
  have cQ := eqDesk_c t mp A B z f y ht hm hA hr hB hf hy
  by_cases hs : szD t mp A B f y 1048576 < 0
  · unfold dsk at *
    refine con_of_vc Try.mixed ⟨7, [], [], []⟩ Try.func3 (by decide) rfl (by simp) (by decide) (by simp [freshOK, freshL, go_sem]) ?_
    rw [Try.ntmps3]
    simp [go_sem]
    refine CallVC.of (cS) (by decide) ?_
    simp [go_sem]
    simp [go_sem, hs]
  · have k := szD_ok hs
    have sm := small_of (f := f) (by omega)
    have cT := toDesk_c t mp A B z f y k.1 k.2.1 k.2.2.1 k.2.2.2.1 k.2.2.2.2.1 sm k.2.2.2.2.2.2
    have c1 := specIsDesk_c t mp A B z f y k.1 k.2.1 k.2.2.1 k.2.2.2.1 k.2.2.2.2.1 sm k.2.2.2.2.2.2
    have c2 := IsDesk_c t mp A B z f y k.1 k.2.1 k.2.2.1 k.2.2.2.1 k.2.2.2.2.1 sm k.2.2.2.2.2.2
    generalize dskB t mp A B z f y = e at c1 c2
    unfold dsk at *
    cases e
    · refine con_of_vc Try.mixed ⟨7, [], [], []⟩ Try.func3 (by decide) rfl (by simp) (by decide) (by simp [freshOK, freshL, go_sem]) ?_
      rw [Try.ntmps3]
      simp [go_sem]
      refine CallVC.of (cS) (by decide) ?_
      simp [go_sem]
      simp [go_sem, hs]
      refine CallVC.of (cT) (by decide) ?_
      simp [go_sem]
      refine CallVC.of (c1) (by decide) ?_
      simp [go_sem]
      refine CallVC.of (cT) (by decide) ?_
      simp [go_sem]
      refine CallVC.of (c2) (by decide) ?_
      simp [go_sem]
      refine ⟨by kernel_rfl, ?_⟩
      refine CallD.of (cT) (by simp [roots, rootsL]) (by decide) ?_
      simp [go_sem]
      refine CallD.of (cQ) (by simp [roots, rootsL]) (by decide) ?_
      simp [go_sem]
      refine ⟨by kernel_rfl, ?_⟩
      simp [go_sem]
    · refine con_of_vc Try.mixed ⟨7, [], [], []⟩ Try.func3 (by decide) rfl (by simp) (by decide) (by simp [freshOK, freshL, go_sem]) ?_
      rw [Try.ntmps3]
      simp [go_sem]
      refine CallVC.of (cS) (by decide) ?_
      simp [go_sem]
      simp [go_sem, hs]
      refine CallVC.of (cT) (by decide) ?_
      simp [go_sem]
      refine CallVC.of (c1) (by decide) ?_
      simp [go_sem]
      refine CallVC.of (cT) (by decide) ?_
      simp [go_sem]
      refine CallVC.of (c2) (by decide) ?_
      simp [go_sem]
      refine ⟨by kernel_rfl, ?_⟩
      refine CallD.of (cT) (by simp [roots, rootsL]) (by decide) ?_
      simp [go_sem]
      refine CallD.of (cQ) (by simp [roots, rootsL]) (by decide) ?_
      simp [go_sem]
      refine ⟨by kernel_rfl, ?_⟩
      simp [go_sem]
end Go.Proofs.Ytoeikpioonlmfaa

