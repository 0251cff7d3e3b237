/- Texts of the own layer and contracts, part 6: C0 C1 C4 C5 O C6 C7 C8 C2 C9 C10 C11 C12 F0 OF L3 P0 F1 F2 F3 F4 F5 F6 P1 P2 P3 P4 P5 P6 C13 F7 Q0 G0 G1 Q1 Q2 LK Q9 Q3 Q29 Q35 Q37 V0 V1 Q4 E0 E14 E15 V2 V3 V4 V5 Q10 Q11 Q12 Q13 Q5 P7 Q6 Q7 Q8 Q14 Q15 Q16 Q17 Q18 Q19 Q20 Q21 Q22 Q23 Q24 Q25 Q26 Q30 V6 W0 W1 W3 W22. -/
import Derived.Test.YtoeikpioonlmfaaGreatRows
import Derived.WalkKit
import Derived.ProofKit
import Derived.OpenShut
import Derived.Test.YtoeikpioonlmfaaGreatM5
namespace Go.Abs
def avs (xs : List Int) : List AV := xs.map AV.int
@[simp] theorem avs_len (xs : List Int) : (avs xs).length = xs.length := by simp [avs]
@[simp] theorem avs_nil : avs [] = [] := rfl
theorem avs_snoc (xs : List Int) (x : Int) : avs (xs ++ [x]) = avs xs ++ [.val (.int .i64 x)] := by simp [avs]
theorem avs_cons (xs : List Int) (x : Int) : avs (x :: xs) = .val (.int .i64 x) :: avs xs := by simp [avs]
theorem avs_app (xs ys : List Int) : avs (xs ++ ys) = avs xs ++ avs ys := by simp [avs]
theorem avs_drop {xs : List Int} {k : Nat} (h : k < xs.length) : (avs xs).drop k = .val (.int .i64 (xs.getD k 0)) :: avs (xs.drop (k + 1)) := by
  rw [avs, ← List.map_drop, List.drop_eq_getElem_cons h, List.map_cons]; simp [h, avs]
@[simp] theorem avs_inj {xs ys : List Int} : (avs xs = avs ys) = (xs = ys) := by
  apply propext
  constructor
  · intro h
    induction xs generalizing ys with
    | nil => cases ys with
      | nil => rfl
      | cons y ys => simp [avs] at h
    | cons x xs ih => cases ys with
      | nil => simp [avs] at h
      | cons y ys =>
        rw [avs_cons, avs_cons] at h
        injection h with h1 h2
        injection h1 with h1
        injection h1 with _ h1
        rw [h1, ih h2]
  · rintro rfl; rfl
theorem avs_set (xs : List Int) (k : Nat) (x : Int) : (avs xs).set k (.val (.int .i64 x)) = avs (xs.set k x) := by
  simp [avs, List.map_set]
theorem avs_repl (n : Nat) (x : Int) : List.replicate n (AV.val (.int .i64 x)) = avs (List.replicate n x) := by simp [avs]
@[simp] theorem avs_fresh (xs : List Int) : freshL (avs xs) = true := by
  induction xs with
  | nil => rfl
  | cons x xs ih => simp [avs_cons, freshL, ih, freshOK]
@[simp] theorem avs_frz (xs : List Int) : frzL (avs xs) = avs xs := by
  induction xs with
  | nil => rfl
  | cons x xs ih => simp [avs_cons, frzL, ih, frz]
@[simp] theorem avs_kl (W : List Nat) (xs : List Int) : klL W (avs xs) = avs xs := by
  induction xs with
  | nil => rfl
  | cons x xs ih => simp [avs_cons, klL, ih, kl]
@[simp] theorem avs_own (xs : List Int) : hasOwnL (avs xs) = false := by
  induction xs with
  | nil => rfl
  | cons x xs ih => simp [avs_cons, hasOwnL, ih, hasOwn]
@[simp] theorem avs_ne {xs : List Int} : (avs xs = []) = (xs = []) := by
  cases xs <;> simp [avs]
theorem tmod_up {n : Int} (h : 0 ≤ n) (m : Int) : n.tmod m = n % m := Int.tmod_eq_emod_of_nonneg h
theorem tdiv_up {n : Int} (h : 0 ≤ n) (m : Int) : n.tdiv m = n / m := Int.tdiv_eq_ediv_of_nonneg h
theorem num_law (n : Int) : (n.tmod 10007 + 10007).tmod 10007 = n % 10007 := by
  rw [Int.tmod_eq_emod, Int.tmod_eq_emod]; split <;> split <;> simp_all <;> omega
theorem num_low (n : Int) : -10007 < n.tmod 10007 ∧ n.tmod 10007 < 10007 := by
  constructor
  · rw [Int.tmod_eq_emod]; split <;> simp_all <;> omega
  · exact Int.tmod_lt_of_pos n (by omega)
end Go.Abs


namespace Go.Proofs.YtoeikpioonlmfaaGreat
open Go.Abs
set_option linter.unusedSectionVars false
set_option linter.unusedVariables false
set_option linter.unusedSimpArgs false
set_option maxHeartbeats 400000
theorem inRange_c (n a b : Int) : Con Tryz.prog 96 [.int n, .int a, .int b] (.bool (decide (a ≤ n) && decide (n ≤ b))) := by
  refine con_of_vc Tryz.mixed ⟨4, [], [], []⟩ Tryz.func96 (by decide) rfl (by simp) (by decide) rfl ?_
  rw [Tryz.ntmps96]
  simp [go_sem]
  refine ⟨fun h => ?_, fun h => ?_⟩ <;> simp at h <;> simp [go_sem, h] <;> omega
theorem l01In_c (n a b : Int) : Con Tryz.prog 90 [.int n, .int a, .int b] (.bool (decide (a ≤ n) && decide (n ≤ b))) := by
  refine con_of_vc Tryz.mixed ⟨4, [], [], []⟩ Tryz.func90 (by decide) rfl (by simp) (by decide) rfl ?_
  rw [Tryz.ntmps90]
  simp [go_sem]
  refine ⟨fun h => ?_, fun h => ?_⟩ <;> simp at h <;> simp [go_sem, h] <;> omega
def held (xs : List Int) (k : Int) : Int := if xs = (List.range xs.length).map (fun (i : Nat) => k + i) then k + xs.length else -1
theorem heldInt64S_c (xs : List Int) (k : Int) (h0 : 0 ≤ k) (h1 : k + xs.length ≤ 9223372036854775807) : Con Tryz.prog 111 [.sl xs.length (avs xs), .int k] (.int (held xs k)) := by
  refine con_of_vc Tryz.mixed ⟨6, [], [], []⟩ Tryz.func111 (by decide) rfl (by simp) (by decide) rfl ?_
  rw [Tryz.ntmps111]
  simp [go_sem]
  refine loop_inv (1 :: List.range' 4 20) (fun i : Nat => [(1, .int (k + i)), (5, .int i)]) (fun i => i ≤ xs.length ∧ xs.take i = (List.range i).map (fun (i : Nat) => k + i)) (fun i => xs.length - i) 0 (by simp) (by simp [go_sem]) (by simp [go_sem]) ?_
  intro i hi
  simp [go_sem]
  refine ⟨fun h => ?_, fun h => ?_⟩ <;> simp at h
  · simp [go_sem, avs_drop h]
    refine ⟨⟨h, by rintro rfl; simp at h⟩, fun h2 => ?_, fun h2 => ?_⟩ <;> simp at h2 <;> simp [go_sem]
    · unfold held
      rw [if_neg]
      intro e
      apply h2
      rw [e]; simp [h]
    · refine ⟨by omega, by omega, i + 1, ⟨by omega, ?_⟩, by omega, Off_reset _ _ _ (by simp), by omega, by omega⟩
      rw [List.take_add_one, hi.2, List.range_succ]
      rw [List.getElem?_eq_getElem h] at h2 ⊢
      simp at h2 ⊢; exact h2
  · simp [go_sem]
    have e : i = xs.length := by omega
    subst e
    have := hi.2
    rw [List.take_length] at this
    unfold held
    rw [if_pos this]
theorem eqInt64S_c (xs ys : List Int) (hx : xs.length ≤ 9223372036854775807) : Con Tryz.prog 43 [.sl xs.length (avs xs), .sl ys.length (avs ys)] (.bool (decide (xs = ys))) := by
  refine con_of_vc Tryz.mixed ⟨6, [], [], []⟩ Tryz.func43 (by decide) rfl (by simp) (by decide) rfl ?_
  rw [Tryz.ntmps43]
  simp [go_sem]
  refine ⟨fun h => ?_, fun h => ?_⟩ <;> simp at h <;> simp [go_sem]
  · rintro rfl; omega
  have hl : xs.length = ys.length := by omega
  refine loop_inv (List.range' 4 30) (fun i : Nat => [(5, .int i)]) (fun i => i ≤ xs.length ∧ xs.take i = ys.take i) (fun i => xs.length - i) 0 (by simp) (by simp [go_sem]) (by simp [go_sem]) ?_
  intro i hi
  simp [go_sem]
  refine ⟨fun h => ?_, fun h => ?_⟩ <;> simp at h
  · simp [go_sem, avs_drop h, avs_drop (show i < ys.length by omega)]
    refine ⟨by kernel_rfl, ⟨by omega, by rintro rfl; simp at h⟩, ⟨by omega, fun e => by rw [e] at hl; rw [hl] at h; simp at h⟩, by kernel_rfl, ?_⟩
    refine ⟨fun h2 => ?_, fun h2 => ?_⟩ <;> simp at h2 <;> simp [go_sem]
    · rintro rfl; exact h2 rfl
    · refine ⟨by omega, i + 1, ⟨by omega, ?_⟩, by omega, Off_reset _ _ _ (by simp), by omega⟩
      rw [List.take_add_one, List.take_add_one, hi.2]
      rw [List.getElem?_eq_getElem h, List.getElem?_eq_getElem (show i < ys.length by omega)] at h2 ⊢
      simp only [Option.getD_some] at h2
      rw [h2]
  · simp [go_sem]
    have e : i = xs.length := by omega
    subst e
    have := hi.2
    rw [List.take_length, hl, List.take_length] at this
    exact this
theorem markInt64S_c (e : TypeId) (xs : List Int) (k : Int) (h0 : 0 ≤ k) (h1 : k + xs.length ≤ 9223372036854775807) : MCon Tryz.prog 44 [.own e xs.length (avs xs), .int k] (.int (k + xs.length))
    [.own e xs.length (avs ((List.range xs.length).map (fun (i : Nat) => k + i))), .any] := by
  refine mcon_of_vc Tryz.mixed ⟨6, [], [], []⟩ [4] [0] Tryz.func44 (by decide) rfl rfl (by simp) (by simp) (by simp) (by decide) ?_
  rw [Tryz.ntmps44]
  simp [go_sem]
  refine loop_inv (0 :: 1 :: List.range' 4 20) (fun i : Nat => [(0, .own e xs.length (avs ((List.range i).map (fun (i : Nat) => k + i) ++ xs.drop i))), (1, .int (k + i)), (5, .int i)]) (fun i => i ≤ xs.length) (fun i => xs.length - i) 0 (by simp) (by simp [go_sem]) (by simp [go_sem]) ?_
  intro i hi
  simp [go_sem]
  refine ⟨fun h => ?_, fun h => ?_⟩ <;> simp at h
  · simp [go_sem]
    refine ⟨h, by omega, by omega, by omega, i + 1, by omega, by omega, Off_reset _ _ _ (by simp), ?_, by omega, by omega⟩
    rw [avs_set, avs_inj, List.range_succ, List.map_append, List.set_append_right _ _ (by simp)]
    simp
    rw [List.drop_eq_getElem_cons h, List.set_cons_zero]
  · simp [go_sem]
    have e : i = xs.length := by omega
    subst e
    simp
theorem held_mark (n : Nat) (k : Int) : held ((List.range n).map (fun (i : Nat) => k + i)) k = k + n := by
  unfold held
  rw [if_pos (by simp)]
  simp
end Go.Proofs.YtoeikpioonlmfaaGreat


namespace Go.Proofs.YtoeikpioonlmfaaGreat
open Go.Abs
set_option linter.unusedSectionVars false
set_option linter.unusedVariables false
set_option linter.unusedSimpArgs false
set_option maxHeartbeats 1000000
def idxF {α : Type} (p : α → Bool) : List α → Int
  | [] => -1
  | x :: xs => if p x then 0 else if idxF p xs = -1 then -1 else idxF p xs + 1
theorem idxF_ge {α : Type} (p : α → Bool) : ∀ xs : List α, -1 ≤ idxF p xs ∧ idxF p xs < xs.length
  | [] => by simp [idxF]
  | x :: xs => by
    have := idxF_ge p xs
    simp only [idxF, List.length_cons]
    split
    · omega
    · split <;> omega
theorem idxF_any {α : Type} (p : α → Bool) (xs : List α) : decide (0 ≤ idxF p xs) = xs.any p := by
  induction xs with
  | nil => simp [idxF]
  | cons x xs ih =>
    have := idxF_ge p xs
    simp only [idxF, List.any_cons, ← ih]
    by_cases hp : p x = true
    · simp [hp]
    · simp only [hp]
      simp
      split
      · rename_i e; simp [e]
      · by_cases h : 0 ≤ idxF p xs <;> simp [h] <;> omega
theorem idxF_skip {α : Type} (p : α → Bool) : ∀ (xs : List α) (i : Nat), (∀ x ∈ xs.take i, p x = false) → i ≤ xs.length → (idxF p xs = if idxF p (xs.drop i) = -1 then -1 else idxF p (xs.drop i) + i)
  | xs, 0, h, hl => by simp
  | [], i + 1, h, hl => by simp at hl
  | x :: xs, i + 1, h, hl => by
    have h1 : p x = false := h x (by simp)
    have h2 := idxF_skip p xs i (fun y hy => h y (by simp [hy])) (by simpa using hl)
    simp only [idxF, h1, List.drop_succ_cons]
    have := (idxF_ge p (xs.drop i)).1
    simp
    rw [h2]
    split
    · simp
    · rename_i hne
      rw [if_neg (by omega)]
      omega
theorem IndexFuncI_c (g : FuncId) (p : Int → Bool) (xs : List Int) (hl : xs.length ≤ 9223372036854775807) (hg : ∀ x ∈ xs, Con Tryz.prog g [.int x] (.bool (p x))) :
    Con Tryz.prog 206 [.sl xs.length (avs xs), .val (.func (.func g) #[] #[])] (.int (idxF p xs)) := by
  refine con_of_vc Tryz.mixed ⟨6, [], [], []⟩ Tryz.func206 (by decide) rfl (by simp) (by decide) rfl ?_
  rw [Tryz.ntmps206]
  simp [go_sem]
  refine loop_inv (5 :: List.range' 8 20) (fun i : Nat => [(8, .int i)]) (fun i => i ≤ xs.length ∧ ∀ x ∈ xs.take i, p x = false) (fun i => xs.length - i) 0 (by simp) (by simp [go_sem]) (by simp [go_sem]) ?_
  rintro i ⟨hi, hf⟩
  simp [go_sem]
  have sk := idxF_skip p xs i hf hi
  refine ⟨fun h => ?_, fun h => ?_⟩ <;> simp at h
  · have hx : xs[i]?.getD 0 ∈ xs := by simp [h]
    have hd : xs.drop i = xs[i]?.getD 0 :: xs.drop (i + 1) := by rw [List.drop_eq_getElem_cons h]; simp [h]
    simp [go_sem, avs_drop h]
    refine ⟨⟨h, by rintro rfl; simp at h⟩, CallVC.of (hg _ hx) (by decide) ?_⟩
    simp [go_sem]
    refine ⟨fun h2 => ?_, fun h2 => ?_⟩ <;> simp [go_sem]
    · rw [sk, hd]; simp [idxF, h2]
    · refine ⟨by omega, i + 1, ⟨by omega, ?_⟩, by omega, Off_reset _ _ _ (by simp), by omega⟩
      intro x hx2
      rw [List.take_add_one, List.getElem?_eq_getElem h, Option.toList_some, List.mem_append, List.mem_singleton] at hx2
      rcases hx2 with hx2 | hx2
      · exact hf x hx2
      · rw [hx2]; simpa [h] using h2
  · simp [go_sem]
    rw [sk, List.drop_eq_nil_of_le h]; simp [idxF]
theorem ContainsFuncI_c (g : FuncId) (p : Int → Bool) (xs : List Int) (hl : xs.length ≤ 9223372036854775807) (hg : ∀ x ∈ xs, Con Tryz.prog g [.int x] (.bool (p x))) :
    Con Tryz.prog 158 [.sl xs.length (avs xs), .val (.func (.func g) #[] #[])] (.bool (xs.any p)) := by
  refine con_of_vc Tryz.mixed ⟨5, [], [], []⟩ Tryz.func158 (by decide) rfl (by simp) (by decide) rfl ?_
  rw [Tryz.ntmps158]
  simp [go_sem]
  refine CallVC.of (IndexFuncI_c g p xs hl hg) (by decide) ?_
  simp [go_sem, idxF_any]
theorem IsNumber_c (a : Int) : Con Tryz.prog 73 [.int a] (.bool (decide (0 ≤ a ∧ a ≤ 10006))) := by
  refine con_of_vc Tryz.mixed ⟨3, [], [], []⟩ Tryz.func73 (by decide) rfl (by simp) (by decide) rfl ?_
  rw [Tryz.ntmps73]
  simp [go_sem]
  refine CallVC.of (inRange_c _ _ _) (by decide) ?_
  simp [go_sem]
theorem notNumber_c (a : Int) : Con Tryz.prog 159 [.int a] (.bool (!decide (0 ≤ a ∧ a ≤ 10006))) := by
  refine con_of_vc Tryz.mixed ⟨3, [], [], []⟩ Tryz.func159 (by decide) rfl (by simp) (by decide) rfl ?_
  rw [Tryz.ntmps159]
  simp [go_sem]
  refine CallVC.of (IsNumber_c _) (by decide) ?_
  simp [go_sem]
def numsB (xs : List Int) : Bool := xs.all fun a => decide (0 ≤ a ∧ a ≤ 10006)
theorem areNumbers_c (xs : List Int) (hl : xs.length ≤ 9223372036854775807) : Con Tryz.prog 91 [.sl xs.length (avs xs)] (.bool (numsB xs)) := by
  refine con_of_vc Tryz.mixed ⟨3, [], [], []⟩ Tryz.func91 (by decide) rfl (by simp) (by decide) rfl ?_
  rw [Tryz.ntmps91]
  simp [go_sem]
  refine CallVC.of (ContainsFuncI_c _ _ xs hl (fun x _ => notNumber_c x)) (by decide) ?_
  simp [go_sem, numsB, List.not_any_eq_all_not]
end Go.Proofs.YtoeikpioonlmfaaGreat


namespace Go.Proofs.YtoeikpioonlmfaaGreat
open Go.Abs
set_option linter.unusedSectionVars false
set_option linter.unusedVariables false
set_option linter.unusedSimpArgs false
set_option maxHeartbeats 1000000
def mat (xss : List (List Int)) : List AV := xss.map fun r => .sl r.length (avs r)
@[simp] theorem mat_len (xss : List (List Int)) : (mat xss).length = xss.length := by simp [mat]
theorem mat_drop {xss : List (List Int)} {k : Nat} (h : k < xss.length) : (mat xss).drop k = .sl (xss[k]?.getD []).length (avs (xss[k]?.getD [])) :: mat (xss.drop (k + 1)) := by
  rw [mat, ← List.map_drop, List.drop_eq_getElem_cons h, List.map_cons]; simp [h, mat]
@[simp] theorem mat_ne {xss : List (List Int)} : (mat xss = []) = (xss = []) := by cases xss <;> simp [mat]
theorem length_c (n : Nat) (cs : List AV) (hn : n ≤ 9223372036854775807) : Con Tryz.prog 150 [.sl n cs] (.int n) := by
  refine con_of_vc Tryz.mixed ⟨3, [], [], []⟩ Tryz.func150 (by decide) rfl (by simp) (by decide) rfl ?_
  rw [Tryz.ntmps150]
  simp [go_sem]
  try omega
end Go.Proofs.YtoeikpioonlmfaaGreat


namespace Go.Proofs.YtoeikpioonlmfaaGreat
open Go.ChangeShapes Go.WideShapes Go.ChangeAt Go.RowKit Go.Abs Go.Deep
set_option linter.unusedSectionVars false
set_option linter.unusedVariables false
section
variable {H : Type} {enc : TypeId × Value → H} {w : World} {sp : Nat → Bool} {held : Bool} {base : Nat}
theorem kids : Kids Tryz.prog (· < Tryz.prog.types.size) := kids_rows (by kernel_rfl) (by kernel_rfl)
theorem full : ∀ t e, t < Tryz.prog.types.size → Tryz.prog.underlying t = some (.slice e) → 0 < Tryz.prog.cellsOf e := slices_full_of Tryz.prog (by kernel_rfl)
theorem flat1 {α β : Type} (g : α → β) : ∀ qs : List α, qs.flatMap (fun a => [g a]) = qs.map g
  | [] => rfl
  | a :: qs => by rw [List.flatMap_cons, flat1 g qs]; rfl
theorem open_vec {n : Nat} {cs : List Value} {x : DataW H × List MemPlace} (h : DataW.trod enc Tryz.prog w base sp held n 35 cs = some x) :
    ∃ xs : List Int, (∀ z ∈ xs, (Lit.int .i64 z).wf = true) ∧ xs.length ≤ 9223372036854775807 ∧ RepL Tryz.prog w (fun b => b < w.heap.size) [.sl xs.length (avs xs)] cs [] ∧ cs.length = 1 := by
  obtain ⟨qs, h1, h2, h3, h4⟩ := open_sl (f := fun z : Int => [AV.int z]) (Good := fun z => (Lit.int .i64 z).wf = true) Tryz.underlying35 (s := 1) (by kernel_rfl) (by decide) (fun _ => rfl)
    (fun n cs y hy => by obtain ⟨z, k1, k2, _⟩ := open_i Tryz.underlying2 hy; exact ⟨z, k1, k2⟩) h
  exact ⟨qs, h1, h2, by rw [flat1] at h3; exact h3, h4⟩
theorem open_mat {n : Nat} {cs : List Value} {x : DataW H × List MemPlace} (h : DataW.trod enc Tryz.prog w base sp held n 45 cs = some x) :
    ∃ xs : List (List Int), (∀ r ∈ xs, (∀ z ∈ r, (Lit.int .i64 z).wf = true) ∧ r.length ≤ 9223372036854775807) ∧ xs.length ≤ 9223372036854775807 ∧ RepL Tryz.prog w (fun b => b < w.heap.size) [.sl xs.length (mat xs)] cs [] ∧ cs.length = 1 := by
  obtain ⟨qs, h1, h2, h3, h4⟩ := open_sl (f := fun r : List Int => [AV.sl r.length (avs r)]) (Good := fun r => (∀ z ∈ r, (Lit.int .i64 z).wf = true) ∧ r.length ≤ 9223372036854775807) Tryz.underlying45 (s := 1) (by kernel_rfl) (by decide) (fun _ => rfl)
    (fun n cs y hy => by obtain ⟨z, k1, k2, k3, _⟩ := open_vec hy; exact ⟨z, ⟨k1, k2⟩, k3⟩) h
  exact ⟨qs, h1, h2, by rw [flat1] at h3; exact h3, h4⟩
theorem rep_one {F : Nat → Prop} {tm : Nat → Value} {oss : Nat → List Nat} {c : AV} {v : Value} (h : RepL Tryz.prog w F [c] [v] []) : RepT Tryz.prog w F tm oss c v [] := .cell _ _ _ (RepL.one h)
set_option maxRecDepth 100000 in
theorem repV {F : Nat → Prop} {tm : Nat → Value} {oss : Nat → List Nat} {t e : TypeId} {v : Value} {c : AV} {r : Reach} {b0 : Nat} (ht : Tryz.prog.underlying t = some (.slice e)) (hv : Value.okWide Tryz.prog w r b0 t v) (h : RepL Tryz.prog w F [c] v.cells.toList []) :
    RepT Tryz.prog w F tm oss c v [] := by
  have hc : v.cells.toList = [v] := by
    simp only [Value.okWide, ht] at hv
    cases v <;> simp_all [Value.cells, Cell.okWide, Cell.ok]
  rw [hc] at h
  exact rep_one h
end
end Go.Proofs.YtoeikpioonlmfaaGreat


namespace Go.Proofs.YtoeikpioonlmfaaGreat
open Go.Abs
set_option linter.unusedSectionVars false
set_option linter.unusedVariables false
set_option linter.unusedSimpArgs false
set_option maxHeartbeats 1000000
def szR (left n : Int) : Int := if left - n < 0 then -1 else left - n
theorem szInt64S_c (n : Nat) (cs : List AV) (left : Int) (hn : n ≤ 9223372036854775807) (h0 : -1 ≤ left) (h1 : left ≤ 9223372036854775807) :
    Con Tryz.prog 76 [.sl n cs, .int left] (.int (szR left n)) := by
  refine con_of_vc Tryz.mixed ⟨5, [], [], []⟩ Tryz.func76 (by decide) rfl (by simp) (by decide) rfl ?_
  rw [Tryz.ntmps76]
  simp [go_sem]
  unfold szR
  refine ⟨by omega, fun h => ?_, fun h => ?_⟩ <;> simp at h <;> simp [go_sem]
  · omega
  · omega
theorem szR_ge (left n : Int) : -1 ≤ szR left n := by unfold szR; split <;> omega
theorem szR_le {left n : Int} (h : 0 ≤ n) (h1 : -1 ≤ left) : szR left n ≤ left := by unfold szR; split <;> omega
def szRs : Int → List (List Int) → Int
  | left, [] => left
  | left, r :: rs => if szR left r.length < 0 then -1 else szRs (szR left r.length) rs
def szM (left : Int) (A : List (List Int)) : Int := if szR left A.length < 0 then -1 else szRs (szR left A.length) A
theorem szInt64SS_c (A : List (List Int)) (left : Int) (hA : A.length ≤ 9223372036854775807) (hr : ∀ r ∈ A, r.length ≤ 9223372036854775807) (h0 : 0 ≤ left) (h1 : left ≤ 9223372036854775807) :
    Con Tryz.prog 24 [.sl A.length (mat A), .int left] (.int (szM left A)) := by
  refine con_of_vc Tryz.mixed ⟨6, [], [], []⟩ Tryz.func24 (by decide) rfl (by simp) (by decide) rfl ?_
  rw [Tryz.ntmps24]
  simp [go_sem]
  refine ⟨by omega, fun h => ?_, fun h => ?_⟩ <;> simp at h <;> simp [go_sem]
  · unfold szM szR; simp; omega
  have e1 : szM left A = szRs (left - A.length) A := by unfold szM szR; rw [if_neg (by omega : ¬ left - (A.length : Int) < 0), if_neg (by omega)]
  refine loop_inv (1 :: List.range' 4 30) (fun x : Nat × Int => [(1, .int x.2), (5, .int x.1)]) (fun x => x.1 ≤ A.length ∧ 0 ≤ x.2 ∧ x.2 ≤ left ∧ szRs x.2 (A.drop x.1) = szM left A) (fun x => A.length - x.1) (0, left - A.length) (by simp; omega) (by simp [go_sem]) (by simp [go_sem]) ?_
  rintro ⟨i, l⟩ ⟨hi, hl0, hl1, he⟩
  simp only at hi hl0 hl1 he
  simp [go_sem]
  refine ⟨fun h => ?_, fun h => ?_⟩ <;> simp at h
  · have hx : A[i]?.getD [] ∈ A := by simp [h]
    have hd : A.drop i = A[i]?.getD [] :: A.drop (i + 1) := by rw [List.drop_eq_getElem_cons h]; simp [h]
    simp [go_sem, mat_drop h]
    refine ⟨⟨h, by rintro rfl; simp at h⟩, CallVC.of (szInt64S_c _ _ _ (hr _ hx) (by omega) (by omega)) (by decide) ?_⟩
    simp [go_sem]
    have k1 := szR_ge l (A[i]?.getD []).length
    have k2 := szR_le (left := l) (n := (A[i]?.getD []).length) (by omega) (by omega)
    rw [hd, szRs] at he
    refine ⟨fun h2 => ?_, fun h2 => ?_⟩ <;> simp at h2 <;> simp [go_sem]
    · rw [if_pos h2] at he; exact he
    · rw [if_neg (by omega)] at he
      refine ⟨by omega, i + 1, _, ⟨by omega, h2, by omega, he⟩, by omega, Off_reset _ _ _ (by simp), rfl, by omega⟩
  · simp [go_sem]
    rw [List.drop_eq_nil_of_le h] at he
    exact he
end Go.Proofs.YtoeikpioonlmfaaGreat


namespace Go.Proofs.YtoeikpioonlmfaaGreat
open Go.Abs
set_option linter.unusedSectionVars false
set_option linter.unusedVariables false
set_option linter.unusedSimpArgs false
set_option maxHeartbeats 1000000
theorem fill_step {α : Type} (l : List α) (d v : α) (i : Nat) (h : i < l.length) (hv : l[i]? = some v) : (l.take i ++ List.replicate (l.length - i) d).set i v = l.take (i + 1) ++ List.replicate (l.length - (i + 1)) d := by
  obtain ⟨k, hk⟩ : ∃ k, l.length - i = k + 1 := ⟨l.length - i - 1, by omega⟩
  rw [show l.length - (i + 1) = k by omega, hk, List.replicate_succ, List.set_append_right _ _ (by simp; omega), List.take_add_one, hv]
  have : i - (l.take i).length = 0 := by simp; omega
  rw [this]; simp
theorem toInt64S_c (xs : List Int) (hl : xs.length ≤ 1048576) : Con Tryz.prog 41 [.sl xs.length (avs xs)] (.own 2 xs.length (avs xs)) := by
  refine con_of_vc Tryz.mixed ⟨5, [], [], []⟩ Tryz.func41 (by decide) rfl (by simp) (by decide) (by simp [freshOK]) ?_
  rw [Tryz.ntmps41]
  simp [go_sem]
  refine ⟨by omega, ?_⟩
  refine loop_inv (List.range' 3 30) (fun i : Nat => [(3, .own 2 xs.length (avs (xs.take i ++ List.replicate (xs.length - i) 0))), (4, .int i)]) (fun i => i ≤ xs.length) (fun i => xs.length - i) 0 (by simp) (by simp [go_sem, avs_repl]) (by simp [go_sem]) ?_
  intro i hi
  simp [go_sem]
  refine ⟨fun h => ?_, fun h => ?_⟩ <;> simp at h
  · simp [go_sem, avs_drop h]
    refine ⟨⟨h, by rintro rfl; simp at h⟩, h, by omega, by omega, i + 1, by omega, by omega, Off_reset _ _ _ (by simp), ?_, by omega⟩
    rw [avs_set, avs_inj]
    exact fill_step xs 0 _ i h (by simp [h])
  · simp [go_sem]
    have e : i = xs.length := by omega
    subst e; simp
def omat (A : List (List Int)) : List AV := A.map fun r => .own 2 r.length (avs r)
@[simp] theorem omat_len (A : List (List Int)) : (omat A).length = A.length := by simp [omat]
@[simp] theorem omat_frz (A : List (List Int)) : frzL (omat A) = mat A := by
  induction A with
  | nil => rfl
  | cons r A ih => simp only [omat, mat, List.map_cons, frzL] at ih ⊢; rw [ih]; simp [frz]
@[simp] theorem omat_fresh (A : List (List Int)) : freshL (omat A) = true := by
  induction A with
  | nil => rfl
  | cons r A ih => simp only [omat, List.map_cons, freshL] at ih ⊢; rw [ih]; simp [freshOK]
theorem toInt64SS_c (A : List (List Int)) (hl : A.length ≤ 1048576) (hr : ∀ r ∈ A, r.length ≤ 1048576) : Con Tryz.prog 27 [.sl A.length (mat A)] (.own 35 A.length (omat A)) := by
  refine con_of_vc Tryz.mixed ⟨5, [], [], []⟩ Tryz.func27 (by decide) rfl (by simp) (by decide) (by simp [freshOK]) ?_
  rw [Tryz.ntmps27]
  simp [go_sem]
  refine ⟨by omega, ?_⟩
  refine loop_inv (List.range' 3 30) (fun i : Nat => [(3, .own 35 A.length (omat (A.take i) ++ List.replicate (A.length - i) (.val (.slice none 0 0)))), (4, .int i)]) (fun i => i ≤ A.length) (fun i => A.length - i) 0 (by simp) (by simp [go_sem, omat]) (by simp [go_sem]) ?_
  intro i hi
  simp [go_sem]
  refine ⟨fun h => ?_, fun h => ?_⟩ <;> simp at h
  · have hx : A[i]?.getD [] ∈ A := by simp [h]
    simp [go_sem, mat_drop h]
    refine ⟨⟨h, by rintro rfl; simp at h⟩, CallVC.of (toInt64S_c _ (hr _ hx)) (by decide) ?_⟩
    simp [go_sem]
    refine ⟨h, by omega, by omega, i + 1, by omega, by omega, Off_reset _ _ _ (by simp), ?_, by omega⟩
    have e1 : ∀ k, omat (A.take k) = (omat A).take k := fun k => by simp [omat, List.map_take]
    have := fill_step (omat A) (.val (.slice none 0 0)) (.own 2 (A[i]?.getD []).length (avs (A[i]?.getD []))) i (by simpa using h) (by simp [omat, h])
    rw [omat_len] at this
    rw [e1, e1]
    exact this
  · simp [go_sem]
    have e : i = A.length := by omega
    subst e; simp
end Go.Proofs.YtoeikpioonlmfaaGreat


namespace Go.Proofs.YtoeikpioonlmfaaGreat
open Go.Abs
set_option linter.unusedSectionVars false
set_option linter.unusedVariables false
set_option linter.unusedSimpArgs false
set_option maxHeartbeats 1000000
theorem eqInt64SS_c (A C : List (List Int)) (hA : A.length ≤ 9223372036854775807) (hr : ∀ r ∈ A, r.length ≤ 9223372036854775807) :
    Con Tryz.prog 30 [.sl A.length (mat A), .sl C.length (mat C)] (.bool (decide (A = C))) := by
  refine con_of_vc Tryz.mixed ⟨6, [], [], []⟩ Tryz.func30 (by decide) rfl (by simp) (by decide) rfl ?_
  rw [Tryz.ntmps30]
  simp [go_sem]
  refine ⟨fun h => ?_, fun h => ?_⟩ <;> simp at h <;> simp [go_sem]
  · rintro rfl; omega
  have hl : A.length = C.length := by omega
  refine loop_inv (List.range' 4 30) (fun i : Nat => [(5, .int i)]) (fun i => i ≤ A.length ∧ A.take i = C.take i) (fun i => A.length - i) 0 (by simp) (by simp [go_sem]) (by simp [go_sem]) ?_
  intro i hi
  simp [go_sem]
  refine ⟨fun h => ?_, fun h => ?_⟩ <;> simp at h
  · have hx : A[i]?.getD [] ∈ A := by simp [h]
    simp [go_sem, mat_drop h, mat_drop (show i < C.length by omega)]
    refine ⟨by kernel_rfl, ⟨h, by rintro rfl; simp at h⟩, ⟨by omega, fun e => by rw [e] at hl; rw [hl] at h; simp at h⟩, ?_⟩
    refine CallD.of (eqInt64S_c _ _ (hr _ hx)) (by simp [roots]) (by decide) ?_
    simp [go_sem]
    refine ⟨by kernel_rfl, ?_⟩
    refine ⟨fun h2 => ?_, fun h2 => ?_⟩ <;> simp at h2 <;> simp [go_sem]
    · rintro rfl; exact h2 rfl
    · refine ⟨by omega, i + 1, ⟨by omega, ?_⟩, by omega, Off_reset _ _ _ (by simp), by omega⟩
      rw [List.take_add_one, List.take_add_one, hi.2]
      rw [List.getElem?_eq_getElem h, List.getElem?_eq_getElem (show i < C.length by omega)] at h2 ⊢
      simp only [Option.getD_some] at h2
      rw [h2]
  · simp [go_sem]
    have e : i = A.length := by omega
    subst e
    have := hi.2
    rw [List.take_length, hl, List.take_length] at this
    exact this
def marks (n : Nat) (k : Int) : List Int := (List.range n).map fun (i : Nat) => k + i
@[simp] theorem marks_len (n : Nat) (k : Int) : (marks n k).length = n := by simp [marks]
def marksM : List (List Int) → Int → List (List Int)
  | [], _ => []
  | r :: rs, k => marks r.length k :: marksM rs (k + r.length)
@[simp] theorem marksM_len : ∀ (A : List (List Int)) (k : Int), (marksM A k).length = A.length
  | [], _ => rfl
  | r :: rs, k => by simp [marksM, marksM_len rs]
def sumL : List (List Int) → Nat
  | [] => 0
  | r :: rs => r.length + sumL rs
theorem sumL_app (A C : List (List Int)) : sumL (A ++ C) = sumL A + sumL C := by
  induction A with
  | nil => simp [sumL]
  | cons r A ih => simp [sumL, ih]; omega
theorem sumL_take {A : List (List Int)} {i : Nat} (h : i < A.length) : sumL (A.take (i + 1)) = sumL (A.take i) + (A[i]?.getD []).length := by
  rw [List.take_add_one, sumL_app]; simp [h, sumL]
theorem sumL_le (A : List (List Int)) (i : Nat) : sumL (A.take i) ≤ sumL A := by
  have := congrArg sumL (List.take_append_drop i A)
  rw [sumL_app] at this; omega
theorem marksM_snoc (A : List (List Int)) (r : List Int) (k : Int) : marksM (A ++ [r]) k = marksM A k ++ [marks r.length (k + sumL A)] := by
  induction A generalizing k with
  | nil => simp [marksM, sumL]
  | cons q A ih => simp [marksM, sumL, ih]; congr 1; omega
theorem marksM_take {A : List (List Int)} {i : Nat} (h : i < A.length) (k : Int) : marksM (A.take (i + 1)) k = marksM (A.take i) k ++ [marks (A[i]?.getD []).length (k + sumL (A.take i))] := by
  rw [List.take_add_one, List.getElem?_eq_getElem h, Option.toList_some, marksM_snoc]; simp
theorem markInt64SS_c (A : List (List Int)) (k : Int) (hA : A.length ≤ 1048576) (hr : ∀ r ∈ A, r.length ≤ 1048576) (h0 : 0 ≤ k) (h1 : k + sumL A ≤ 9223372036854775807) :
    MCon Tryz.prog 32 [.own 35 A.length (omat A), .int k] (.int (k + sumL A)) [.own 35 A.length (omat (marksM A k)), .any] := by
  refine mcon_of_vc Tryz.mixed ⟨6, [], [44], []⟩ [4] [0] Tryz.func32 (by decide) rfl rfl (by simp) (by simp) (by simp) (by decide) ?_
  rw [Tryz.ntmps32]
  simp [go_sem]
  refine loop_inv (0 :: 1 :: List.range' 4 20) (fun i : Nat => [(0, .own 35 A.length (omat (marksM (A.take i) k ++ A.drop i))), (1, .int (k + sumL (A.take i))), (5, .int i)]) (fun i => i ≤ A.length) (fun i => A.length - i) 0 (by simp) (by simp [go_sem, marksM, sumL]) (by simp [go_sem]) ?_
  intro i hi
  simp [go_sem]
  refine ⟨fun h => ?_, fun h => ?_⟩ <;> simp at h
  · have hr2 : A[i]?.getD [] ∈ A := by simp [h]
    generalize hM : omat (marksM (A.take i) k ++ A.drop i) = M
    have hML : M.length = A.length := by rw [← hM]; simp; omega
    have hMi : M[i]? = some (.own 2 (A[i]?.getD []).length (avs (A[i]?.getD []))) := by
      rw [← hM, omat, List.getElem?_map, List.getElem?_append_right (by simp; omega)]
      simp [h, Nat.min_eq_left hi]
    have t1 := sumL_take h
    have t2 := sumL_le A (i + 1)
    have e0 : A[i]?.getD [] = A[i] := by simp [h]
    rw [e0] at t1 hMi
    have m := markInt64S_c 2 A[i] (k + sumL (A.take i)) (by omega) (by omega)
    simp [go_sem, hMi, hML]
    refine ⟨h, _, _, m, ?_⟩
    simp [go_sem, hML, h]
    refine ⟨by omega, i + 1, by omega, by omega, Off_reset _ _ _ (by simp), ?_, by omega, by omega⟩
    rw [← hM, marksM_take h, e0, omat, omat, List.drop_eq_getElem_cons h, List.map_append, List.map_cons, List.set_append_right _ _ (by simp; omega)]
    have : i - (List.map (fun r => AV.own 2 r.length (avs r)) (marksM (A.take i) k)).length = 0 := by simp; omega
    rw [this, List.set_cons_zero]
    simp [marks]
  · simp [go_sem]
    have e : i = A.length := by omega
    subst e
    simp
end Go.Proofs.YtoeikpioonlmfaaGreat


namespace Go.Proofs.YtoeikpioonlmfaaGreat
open Go.Abs
set_option linter.unusedSectionVars false
set_option linter.unusedVariables false
set_option linter.unusedSimpArgs false
set_option maxHeartbeats 1000000
def pw (a k : Int) : Int := a ^ k.toNat % 10007
theorem num_c (n : Int) (h0 : -9223372036854775808 ≤ n) (h1 : n ≤ 9223372036854775807) : Con Tryz.prog 107 [.int n] (.int (n % 10007)) := by
  have e := num_law n
  have b := num_low n
  refine con_of_vc Tryz.mixed ⟨3, [], [], []⟩ Tryz.func107 (by decide) rfl (by simp) (by decide) rfl ?_
  rw [Tryz.ntmps107]
  simp [go_sem, e]
  omega
theorem l01Mod_c (n : Int) (h0 : -9223372036854775808 ≤ n) (h1 : n ≤ 9223372036854775807) : Con Tryz.prog 167 [.int n] (.int (n % 10007)) := by
  have e := num_law n
  have b := num_low n
  refine con_of_vc Tryz.mixed ⟨3, [], [], []⟩ Tryz.func167 (by decide) rfl (by simp) (by decide) rfl ?_
  rw [Tryz.ntmps167]
  simp [go_sem, e]
  omega
def fits (n : Int) : Prop := -9223372036854775808 ≤ n ∧ n ≤ 9223372036854775807
theorem l01Mul_c (a b : Int) (h : fits (a * b)) : Con Tryz.prog 138 [.int a, .int b] (.int (a * b % 10007)) := by
  refine con_of_vc Tryz.mixed ⟨5, [], [], []⟩ Tryz.func138 (by decide) rfl (by simp) (by decide) rfl ?_
  rw [Tryz.ntmps138]
  simp [go_sem]
  refine ⟨h, CallVC.of (l01Mod_c _ h.1 h.2) (by decide) ?_⟩
  simp [go_sem]
theorem l01Sub_c (a b : Int) (h : fits (a - b)) : Con Tryz.prog 200 [.int a, .int b] (.int ((a - b) % 10007)) := by
  refine con_of_vc Tryz.mixed ⟨5, [], [], []⟩ Tryz.func200 (by decide) rfl (by simp) (by decide) rfl ?_
  rw [Tryz.ntmps200]
  simp [go_sem]
  refine ⟨h, CallVC.of (l01Mod_c _ h.1 h.2) (by decide) ?_⟩
  simp [go_sem]
theorem l01Add_c (a b : Int) (h : fits (a + b)) : Con Tryz.prog 196 [.int a, .int b] (.int ((a + b) % 10007)) := by
  refine con_of_vc Tryz.mixed ⟨5, [], [], []⟩ Tryz.func196 (by decide) rfl (by simp) (by decide) rfl ?_
  rw [Tryz.ntmps196]
  simp [go_sem]
  refine ⟨h, CallVC.of (l01Mod_c _ h.1 h.2) (by decide) ?_⟩
  simp [go_sem]
def isN (a : Int) : Prop := 0 ≤ a ∧ a < 10007
theorem isN_mod (n : Int) : isN (n % 10007) := ⟨Int.emod_nonneg _ (by omega), Int.emod_lt_of_pos _ (by omega)⟩
theorem mul_bound {a b : Int} (ha : isN a) (hb : isN b) : 0 ≤ a * b ∧ a * b ≤ 100120036 := by
  obtain ⟨a0, a1⟩ := ha
  obtain ⟨b0, b1⟩ := hb
  exact ⟨Int.mul_nonneg a0 b0, Int.le_trans (Int.mul_le_mul_of_nonneg_right (show a ≤ 10006 by omega) b0) (by omega)⟩
theorem mul_fits {a b : Int} (ha : isN a) (hb : isN b) : fits (a * b) := by
  have := mul_bound ha hb
  exact ⟨by omega, by omega⟩
theorem add_fits {a b : Int} (ha : isN a) (hb : isN b) : fits (a + b) := by
  obtain ⟨a0, a1⟩ := ha
  obtain ⟨b0, b1⟩ := hb
  exact ⟨by omega, by omega⟩
theorem sub_fits {a b : Int} (ha : isN a) (hb : isN b) : fits (a - b) := by
  obtain ⟨a0, a1⟩ := ha
  obtain ⟨b0, b1⟩ := hb
  exact ⟨by omega, by omega⟩
theorem pow_mod (a : Int) (k : Nat) : (a % 10007) ^ k % 10007 = a ^ k % 10007 := by
  induction k with
  | zero => simp
  | succ k ih => rw [Int.pow_succ, Int.pow_succ, Int.mul_emod, ih, Int.emod_emod, ← Int.mul_emod]
theorem sq_pow (a : Int) (q : Nat) : (a * a) ^ q = a ^ (2 * q) := by
  induction q with
  | zero => simp
  | succ q ih => rw [Int.pow_succ, ih, show 2 * (q + 1) = 2 * q + 1 + 1 by omega, Int.pow_succ, Int.pow_succ, Int.mul_assoc]
theorem mod_mul_r (o x : Int) : o * (x % 10007) % 10007 = o * x % 10007 := by
  rw [Int.mul_emod, Int.emod_emod, ← Int.mul_emod]
theorem mod_mul_l (o x : Int) : (x % 10007) * o % 10007 = x * o % 10007 := by
  rw [Int.mul_emod, Int.emod_emod, ← Int.mul_emod]
theorem pw_even (o a : Int) (q : Nat) : o * (a * a % 10007) ^ q % 10007 = o * a ^ (2 * q) % 10007 := by
  rw [← mod_mul_r, pow_mod, mod_mul_r, sq_pow]
theorem pw_odd (o a : Int) (q : Nat) : (o * a % 10007) * (a * a % 10007) ^ q % 10007 = o * a ^ (2 * q + 1) % 10007 := by
  rw [pw_even, mod_mul_l, Int.pow_succ, Int.mul_assoc, Int.mul_comm (a ^ (2 * q)) a]
theorem half_cast (j : Nat) : (j : Int).tdiv 2 = ((j / 2 : Nat) : Int) := by rw [tdiv_up (by omega)]; omega
theorem bit_cast (j : Nat) : (j : Int).tmod 2 = ((j % 2 : Nat) : Int) := by rw [tmod_up (by omega)]; omega
theorem pow_c (a k : Int) (ha : isN a) (hk : 0 ≤ k) (hk2 : k ≤ 9223372036854775807) : Con Tryz.prog 129 [.int a, .int k] (.int (pw a k)) := by
  refine con_of_vc Tryz.mixed ⟨6, [], [], []⟩ Tryz.func129 (by decide) rfl (by simp) (by decide) rfl ?_
  rw [Tryz.ntmps129]
  simp [go_sem]
  refine loop_inv (0 :: 1 :: List.range' 4 30) (fun x : Int × Nat × Int => [(0, .int x.1), (1, .int x.2.1), (5, .int x.2.2)])
    (fun x => isN x.1 ∧ (x.2.1 : Int) ≤ 9223372036854775807 ∧ isN x.2.2 ∧ x.2.2 * x.1 ^ x.2.1 % 10007 = a ^ k.toNat % 10007) (fun x => x.2.1) (a, k.toNat, 1) ⟨ha, by simp; omega, ⟨by simp, by simp⟩, by simp⟩ (by simp [go_sem]; omega) (by simp [go_sem]) ?_
  rintro ⟨b, j, o⟩ ⟨hb, hj, ho, he⟩
  simp only at hb hj ho he
  have f1 := mul_fits hb hb
  have f2 := mul_fits ho hb
  simp [go_sem]
  refine ⟨fun h => ?_, fun h => ?_⟩ <;> simp at h
  · simp [go_sem, half_cast, bit_cast]
    refine ⟨fun h2 => ?_, fun h2 => ?_⟩ <;> simp at h2 <;> simp [go_sem]
    · refine ⟨f2, CallVC.of (num_c _ f2.1 f2.2) (by decide) ?_⟩
      simp [go_sem]
      refine ⟨f1, CallVC.of (num_c _ f1.1 f1.2) (by decide) ?_⟩
      simp [go_sem, half_cast, bit_cast]
      refine ⟨by omega, b * b % 10007, j / 2, o * b % 10007, ⟨isN_mod _, by omega, isN_mod _, ?_⟩, by omega, Off_reset _ _ _ (by simp), rfl, by omega, rfl⟩
      rw [pw_odd, show 2 * (j / 2) + 1 = j by omega, he]
    · refine ⟨f1, CallVC.of (num_c _ f1.1 f1.2) (by decide) ?_⟩
      simp [go_sem, half_cast, bit_cast]
      refine ⟨by omega, b * b % 10007, j / 2, o, ⟨isN_mod _, by omega, ho, ?_⟩, by omega, Off_reset _ _ _ (by simp), rfl, by omega, rfl⟩
      rw [pw_even, show 2 * (j / 2) = j by omega, he]
  · simp [go_sem]
    subst h
    unfold pw
    rw [← he]
    simp
    rw [Int.emod_eq_of_lt ho.1 ho.2]
theorem l01Pow_c (a k : Int) (ha : isN a) (hk : 0 ≤ k) (hk2 : k ≤ 9223372036854775807) : Con Tryz.prog 209 [.int a, .int k] (.int (pw a k)) := by
  refine con_of_vc Tryz.mixed ⟨6, [], [], []⟩ Tryz.func209 (by decide) rfl (by simp) (by decide) rfl ?_
  rw [Tryz.ntmps209]
  simp [go_sem]
  refine loop_inv (0 :: 1 :: List.range' 4 30) (fun x : Int × Nat × Int => [(0, .int x.1), (1, .int x.2.1), (5, .int x.2.2)])
    (fun x => isN x.1 ∧ (x.2.1 : Int) ≤ 9223372036854775807 ∧ isN x.2.2 ∧ x.2.2 * x.1 ^ x.2.1 % 10007 = a ^ k.toNat % 10007) (fun x => x.2.1) (a, k.toNat, 1) ⟨ha, by simp; omega, ⟨by simp, by simp⟩, by simp⟩ (by simp [go_sem]; omega) (by simp [go_sem]) ?_
  rintro ⟨b, j, o⟩ ⟨hb, hj, ho, he⟩
  simp only at hb hj ho he
  have f1 := mul_fits hb hb
  have f2 := mul_fits ho hb
  simp [go_sem]
  refine ⟨fun h => ?_, fun h => ?_⟩ <;> simp at h
  · simp [go_sem, half_cast, bit_cast]
    refine ⟨fun h2 => ?_, fun h2 => ?_⟩ <;> simp at h2 <;> simp [go_sem]
    · refine CallVC.of (l01Mul_c _ _ f2) (by decide) ?_
      simp [go_sem]
      refine CallVC.of (l01Mul_c _ _ f1) (by decide) ?_
      simp [go_sem, half_cast, bit_cast]
      refine ⟨by omega, b * b % 10007, j / 2, o * b % 10007, ⟨isN_mod _, by omega, isN_mod _, ?_⟩, by omega, Off_reset _ _ _ (by simp), rfl, by omega, rfl⟩
      rw [pw_odd, show 2 * (j / 2) + 1 = j by omega, he]
    · refine CallVC.of (l01Mul_c _ _ f1) (by decide) ?_
      simp [go_sem, half_cast, bit_cast]
      refine ⟨by omega, b * b % 10007, j / 2, o, ⟨isN_mod _, by omega, ho, ?_⟩, by omega, Off_reset _ _ _ (by simp), rfl, by omega, rfl⟩
      rw [pw_even, show 2 * (j / 2) = j by omega, he]
  · simp [go_sem]
    subst h
    unfold pw
    rw [← he]
    simp
    rw [Int.emod_eq_of_lt ho.1 ho.2]
theorem inv_c (a : Int) (ha : isN a) : Con Tryz.prog 108 [.int a] (.int (pw a 10005)) := by
  refine con_of_vc Tryz.mixed ⟨3, [], [], []⟩ Tryz.func108 (by decide) rfl (by simp) (by decide) rfl ?_
  rw [Tryz.ntmps108]
  simp [go_sem]
  refine CallVC.of (pow_c _ _ ha (by omega) (by omega)) (by decide) ?_
  simp [go_sem]
theorem l01Inv_c (a : Int) (ha : isN a) : Con Tryz.prog 166 [.int a] (.int (pw a 10005)) := by
  refine con_of_vc Tryz.mixed ⟨3, [], [], []⟩ Tryz.func166 (by decide) rfl (by simp) (by decide) rfl ?_
  rw [Tryz.ntmps166]
  simp [go_sem]
  refine CallVC.of (l01Pow_c _ _ ha (by omega) (by omega)) (by decide) ?_
  simp [go_sem]
end Go.Proofs.YtoeikpioonlmfaaGreat


namespace Go.Proofs.YtoeikpioonlmfaaGreat
open Go.Abs
set_option linter.unusedSectionVars false
set_option linter.unusedVariables false
set_option linter.unusedSimpArgs false
set_option maxHeartbeats 1000000
end Go.Proofs.YtoeikpioonlmfaaGreat


namespace Go.Proofs.YtoeikpioonlmfaaGreat
open Go.Abs
set_option linter.unusedSectionVars false
set_option linter.unusedVariables false
set_option linter.unusedSimpArgs false
set_option maxHeartbeats 1000000
def Ns (xs : List Int) : Prop := ∀ x ∈ xs, isN x
theorem Ns.get {xs : List Int} (h : Ns xs) (k : Nat) : isN (xs[k]?.getD 0) := by
  rcases Nat.lt_or_ge k xs.length with hk | hk
  · simp [hk]; exact h _ (List.getElem_mem hk)
  · simp [hk]; exact ⟨by omega, by omega⟩
theorem Ns.take {xs : List Int} (h : Ns xs) (k : Nat) : Ns (xs.take k) := fun x hx => h x (List.mem_of_mem_take hx)
theorem Ns.nil : Ns [] := by intro x hx; simp at hx
def Mat (n : Nat) (A : List (List Int)) : Prop := ∀ r ∈ A, r.length = n ∧ Ns r
theorem Mat.get {n : Nat} {A : List (List Int)} (h : Mat n A) {k : Nat} (hk : k < A.length) : (A[k]?.getD []).length = n ∧ Ns (A[k]?.getD []) := by
  rw [List.getElem?_eq_getElem hk]; exact h _ (List.getElem_mem hk)
end Go.Proofs.YtoeikpioonlmfaaGreat


namespace Go.Proofs.YtoeikpioonlmfaaGreat
open Go.Abs
set_option linter.unusedSectionVars false
set_option linter.unusedVariables false
set_option linter.unusedSimpArgs false
set_option maxHeartbeats 1000000
end Go.Proofs.YtoeikpioonlmfaaGreat


namespace Go.Proofs.YtoeikpioonlmfaaGreat
open Go.Abs
set_option linter.unusedSectionVars false
set_option linter.unusedVariables false
set_option linter.unusedSimpArgs false
set_option maxHeartbeats 1000000
theorem specIsNumber_c (a : Int) : Con Tryz.prog 180 [.int a] (.bool (decide (0 ≤ a ∧ a ≤ 10006))) := by
  refine con_of_vc Tryz.mixed ⟨3, [], [], []⟩ Tryz.func180 (by decide) rfl (by simp) (by decide) (by simp [freshOK, freshL, go_sem]) ?_
  rw [Tryz.ntmps180]
  simp [go_sem]
  refine CallVC.of (l01In_c _ _ _) (by decide) ?_
  simp [go_sem]
theorem numsB_bad {xs : List Int} {i : Nat} (h : i < xs.length) (hb : ¬ (0 ≤ xs[i]?.getD 0 ∧ xs[i]?.getD 0 ≤ 10006)) : numsB xs = false := by
  rw [List.getElem?_eq_getElem h] at hb
  simp only [Option.getD_some] at hb
  unfold numsB
  rw [List.all_eq_false]
  exact ⟨xs[i], List.getElem_mem h, by simpa using hb⟩
theorem numsB_ok {xs : List Int} (h : ∀ x ∈ xs, 0 ≤ x ∧ x ≤ 10006) : numsB xs = true := by
  unfold numsB
  rw [List.all_eq_true]
  intro x hx
  simpa using h x hx
theorem numsB_N {xs : List Int} : numsB xs = true ↔ Ns xs := by
  unfold numsB Ns isN
  rw [List.all_eq_true]
  constructor
  · intro h x hx
    have := h x hx
    simp at this; omega
  · intro h x hx
    have := h x hx
    simp; omega
theorem take_all {α : Type} {p : α → Prop} {xs : List α} {i : Nat} (h : i < xs.length) (h1 : ∀ x ∈ xs.take i, p x) (h2 : p xs[i]) : ∀ x ∈ xs.take (i + 1), p x := by
  intro x hx
  rw [List.take_add_one, List.getElem?_eq_getElem h, Option.toList_some, List.mem_append, List.mem_singleton] at hx
  rcases hx with hx | rfl
  · exact h1 x hx
  · exact h2
theorem l01Numbers_c (xs : List Int) (hl : xs.length ≤ 9223372036854775807) : Con Tryz.prog 163 [.sl xs.length (avs xs)] (.bool (numsB xs)) := by
  refine con_of_vc Tryz.mixed ⟨4, [], [], []⟩ Tryz.func163 (by decide) rfl (by simp) (by decide) (by simp [freshOK, freshL, go_sem]) ?_
  rw [Tryz.ntmps163]
  simp [go_sem]
  refine loop_inv (List.range' 2 14) (fun i : Nat => [(3, .int i)]) (fun i => i ≤ xs.length ∧ ∀ x ∈ xs.take i, 0 ≤ x ∧ x ≤ 10006) (fun i => xs.length - i) 0 (by simp) (by simp [go_sem]) (by simp [go_sem]) ?_
  rintro i ⟨hi, hp⟩
  simp [go_sem]
  refine ⟨fun h => ?_, fun h => ?_⟩ <;> simp at h
  · simp [go_sem, avs_drop h]
    refine ⟨⟨h, by rintro rfl; simp at h⟩, ?_⟩
    refine CallVC.of (specIsNumber_c _) (by decide) ?_
    by_cases hb : 0 ≤ xs[i]?.getD 0 ∧ xs[i]?.getD 0 ≤ 10006
    · simp [go_sem, hb]
      refine ⟨by omega, i + 1, ⟨by omega, ?_⟩, by omega, Off_reset _ _ _ (by simp), by omega⟩
      rw [List.getElem?_eq_getElem h, Option.getD_some] at hb
      exact take_all h hp hb
    · have e : decide (0 ≤ xs[i]?.getD 0 ∧ xs[i]?.getD 0 ≤ 10006) = false := by simpa using hb
      rw [e]
      simp [go_sem]
      exact numsB_bad h hb
  · simp [go_sem]
    have e : i = xs.length := by omega
    subst e
    rw [List.take_length] at hp
    exact numsB_ok hp
structure Tab (A : List (List Int)) (B : List Int) : Prop where
  pos : 1 ≤ B.length
  le : B.length ≤ 8
  len : A.length = B.length
  b : Ns B
  a : Mat B.length A
end Go.Proofs.YtoeikpioonlmfaaGreat


namespace Go.Proofs.YtoeikpioonlmfaaGreat
open Go.Abs
set_option linter.unusedSectionVars false
set_option linter.unusedVariables false
set_option linter.unusedSimpArgs false
set_option maxHeartbeats 1000000
abbrev Mon := Int × List Int
def mons (p : List Mon) : List AV := p.flatMap fun m => [.int m.1, .sl m.2.length (avs m.2)]
def omons (p : List Mon) : List AV := p.flatMap fun m => [.int m.1, .own 2 m.2.length (avs m.2)]
def prt (f : List (List Mon)) : List AV := f.map fun p => .sl p.length (mons p)
def oprt (f : List (List Mon)) : List AV := f.map fun p => .own 97 p.length (omons p)
theorem mons_cons (m : Mon) (p : List Mon) : mons (m :: p) = .int m.1 :: .sl m.2.length (avs m.2) :: mons p := rfl
theorem omons_cons (m : Mon) (p : List Mon) : omons (m :: p) = .int m.1 :: .own 2 m.2.length (avs m.2) :: omons p := rfl
@[simp] theorem mons_nil : mons [] = [] := rfl
@[simp] theorem omons_nil : omons [] = [] := rfl
@[simp] theorem mons_len : ∀ p : List Mon, (mons p).length = p.length * 2
  | [] => rfl
  | m :: p => by rw [mons_cons]; simp [mons_len p]; omega
@[simp] theorem omons_len : ∀ p : List Mon, (omons p).length = p.length * 2
  | [] => rfl
  | m :: p => by rw [omons_cons]; simp [omons_len p]; omega
@[simp] theorem mons_ne {p : List Mon} : (mons p = []) = (p = []) := by cases p <;> simp [mons_cons]
@[simp] theorem prt_len (f : List (List Mon)) : (prt f).length = f.length := by simp [prt]
@[simp] theorem oprt_len (f : List (List Mon)) : (oprt f).length = f.length := by simp [oprt]
@[simp] theorem prt_ne {f : List (List Mon)} : (prt f = []) = (f = []) := by cases f <;> simp [prt]
@[simp] theorem omons_frz : ∀ p : List Mon, frzL (omons p) = mons p
  | [] => rfl
  | m :: p => by rw [omons_cons, mons_cons]; simp [frzL, frz, omons_frz p]
@[simp] theorem mons_frz : ∀ p : List Mon, frzL (mons p) = mons p
  | [] => rfl
  | m :: p => by rw [mons_cons]; simp [frzL, frz, mons_frz p]
@[simp] theorem omons_fresh : ∀ p : List Mon, freshL (omons p) = true
  | [] => rfl
  | m :: p => by rw [omons_cons]; simp [freshL, freshOK, omons_fresh p]
@[simp] theorem oprt_frz : ∀ f : List (List Mon), frzL (oprt f) = prt f
  | [] => rfl
  | p :: f => by have := oprt_frz f; simp only [oprt, prt, List.map_cons, frzL] at this ⊢; rw [this]; simp [frz]
@[simp] theorem oprt_fresh : ∀ f : List (List Mon), freshL (oprt f) = true
  | [] => rfl
  | p :: f => by have := oprt_fresh f; simp only [oprt, List.map_cons, freshL] at this ⊢; rw [this]; simp [freshOK]
theorem mons_drop : ∀ {p : List Mon} {k : Nat}, k < p.length → (mons p).drop (k * 2) = .val (.int .i64 (p[k]?.getD (0, [])).1) :: .sl (p[k]?.getD (0, [])).2.length (avs (p[k]?.getD (0, [])).2) :: mons (p.drop (k + 1))
  | m :: p, 0, _ => rfl
  | m :: p, k + 1, h => by
    have := mons_drop (p := p) (k := k) (by simpa using h)
    rw [mons_cons, show (k + 1) * 2 = k * 2 + 1 + 1 by omega]
    simpa using this
theorem prt_drop {f : List (List Mon)} {k : Nat} (h : k < f.length) : (prt f).drop k = .sl (f[k]?.getD []).length (mons (f[k]?.getD [])) :: prt (f.drop (k + 1)) := by
  rw [prt, ← List.map_drop, List.drop_eq_getElem_cons h, List.map_cons]; simp [h, prt]
def szG {α : Type} (g : Int → α → Int) : Int → List α → Int
  | left, [] => left
  | left, a :: l => if g left a < 0 then -1 else szG g (g left a) l
def szA {α : Type} (g : Int → α → Int) (left : Int) (l : List α) : Int := if left - l.length < 0 then -1 else szG g (left - l.length) l
def sumC {α : Type} (c : α → Nat) : List α → Nat
  | [] => 0
  | a :: l => c a + sumC c l
structure SzOk {α : Type} (g : Int → α → Int) (c : α → Nat) : Prop where
  lo : ∀ l a, -1 ≤ g l a
  hi : ∀ l a, 0 ≤ l → g l a ≤ l
  ok : ∀ l a, 0 ≤ l → 0 ≤ g l a → (c a : Int) ≤ l - g l a
theorem szG_lo {α : Type} {g : Int → α → Int} {c : α → Nat} (h : SzOk g c) : ∀ (l : List α) (left : Int), 0 ≤ left → -1 ≤ szG g left l ∧ szG g left l ≤ left ∧ (0 ≤ szG g left l → (sumC c l : Int) ≤ left - szG g left l)
  | [], left, h0 => by simp [szG, sumC]; omega
  | a :: l, left, h0 => by
    rw [szG]
    have h1 := h.hi left a h0
    split
    · exact ⟨by omega, by omega, by omega⟩
    · rename_i h2
      have := szG_lo h l (g left a) (by omega)
      refine ⟨this.1, by omega, fun h3 => ?_⟩
      have h4 := this.2.2 h3
      have h5 := h.ok left a h0 (by omega)
      rw [sumC]; omega
theorem szA_ok {α : Type} {g : Int → α → Int} {c : α → Nat} (h : SzOk g c) : SzOk (szA g) (fun l => l.length + sumC c l) := by
  refine ⟨fun l a => ?_, fun l a h0 => ?_, fun l a h0 h1 => ?_⟩ <;> unfold szA at * <;> split
  · omega
  · exact (szG_lo h a _ (by omega)).1
  · omega
  · have := (szG_lo h a (l - a.length) (by omega)).2.1; omega
  · rename_i h2; rw [if_pos h2] at h1; omega
  · rename_i h2
    rw [if_neg h2] at h1
    have := (szG_lo h a (l - a.length) (by omega)).2.2 h1
    push_cast; omega
theorem szR_ok : SzOk (fun l (m : Mon) => szR l m.2.length) (fun m => m.2.length) := by
  refine ⟨fun l a => szR_ge _ _, fun l a h0 => szR_le (by omega) (by omega), fun l a h0 h1 => ?_⟩
  unfold szR at h1 ⊢
  split at h1
  · omega
  · rename_i h2; rw [if_neg h2]; omega
theorem sumC_mem {α : Type} (c : α → Nat) : ∀ {l : List α} {a : α}, a ∈ l → c a ≤ sumC c l
  | b :: l, a, h => by
    rw [sumC]
    rcases List.mem_cons.1 h with rfl | h
    · omega
    · have := sumC_mem c h; omega
def cM (m : Mon) : Nat := m.2.length
def cP (p : List Mon) : Nat := p.length + sumC cM p
def cF (f : List (List Mon)) : Nat := f.length + sumC cP f
def szMn (l : Int) (m : Mon) : Int := szR l m.2.length
def szP : Int → List Mon → Int := szA szMn
def szF : Int → List (List Mon) → Int := szA szP
theorem szMn_ok : SzOk szMn cM := szR_ok
theorem szP_ok : SzOk szP cP := szA_ok szMn_ok
theorem szF_ok : SzOk szF cF := szA_ok szP_ok
theorem szMonomial_c (m : Mon) (left : Int) (hn : m.2.length ≤ 9223372036854775807) (h0 : 0 ≤ left) (h1 : left ≤ 9223372036854775807) :
    Con Tryz.prog 198 [.agg [.int m.1, .sl m.2.length (avs m.2)], .int left] (.int (szMn left m)) := by
  refine con_of_vc Tryz.mixed ⟨5, [], [], []⟩ Tryz.func198 (by decide) rfl (by simp) (by decide) (by simp [freshOK, freshL, go_sem]) ?_
  rw [Tryz.ntmps198]
  simp [go_sem]
  refine CallVC.of (szInt64S_c _ _ left hn (by omega) h1) (by decide) ?_
  simp [go_sem]
  have := szR_ge left m.2.length
  unfold szMn
  by_cases h2 : szR left m.2.length < 0
  · simp [go_sem, h2]
    omega
  · simp [go_sem, h2]
theorem szMonomialS_c (p : List Mon) (left : Int) (hn : p.length ≤ 9223372036854775807) (hr : ∀ m ∈ p, m.2.length ≤ 9223372036854775807) (h0 : 0 ≤ left) (h1 : left ≤ 9223372036854775807) :
    Con Tryz.prog 145 [.sl p.length (mons p), .int left] (.int (szP left p)) := by
  refine con_of_vc Tryz.mixed ⟨6, [], [], []⟩ Tryz.func145 (by decide) rfl (by simp) (by decide) (by simp [freshOK, freshL, go_sem]) ?_
  rw [Tryz.ntmps145]
  simp [go_sem]
  refine ⟨by omega, fun h => ?_, fun h => ?_⟩ <;> simp at h <;> simp [go_sem]
  · unfold szP szA; rw [if_pos (by omega)]
  have e1 : szP left p = szG szMn (left - p.length) p := by unfold szP szA; rw [if_neg (by omega)]
  refine loop_inv (1 :: List.range' 4 30) (fun x : Nat × Int => [(1, .int x.2), (5, .int x.1)]) (fun x => x.1 ≤ p.length ∧ 0 ≤ x.2 ∧ x.2 ≤ left ∧ szG szMn x.2 (p.drop x.1) = szP left p) (fun x => p.length - x.1) (0, left - p.length) (by simp; omega) (by simp [go_sem]) (by simp [go_sem]) ?_
  rintro ⟨i, l⟩ ⟨hi, hl0, hl1, he⟩
  simp only at hi hl0 hl1 he
  simp [go_sem]
  refine ⟨fun h => ?_, fun h => ?_⟩ <;> simp at h
  · have hx : p[i]?.getD (0, []) ∈ p := by simp [h]
    have hd : p.drop i = p[i]?.getD (0, []) :: p.drop (i + 1) := by rw [List.drop_eq_getElem_cons h]; simp [h]
    have hm := hr _ hx
    simp [go_sem, mons_drop h]
    refine ⟨⟨h, by rintro rfl; simp at h⟩, ?_⟩
    try refine ⟨by omega, ?_⟩
    refine CallVC.of (szMonomial_c _ _ hm hl0 (by omega)) (by decide) ?_
    simp [go_sem]
    have k1 := szMn_ok.lo l (p[i]?.getD (0, []))
    have k2 := szMn_ok.hi l (p[i]?.getD (0, [])) hl0
    rw [hd, szG] at he
    refine ⟨fun h2 => ?_, fun h2 => ?_⟩ <;> simp at h2 <;> simp [go_sem]
    · rw [if_pos h2] at he; exact he
    · rw [if_neg (by omega)] at he
      refine ⟨by omega, i + 1, _, ⟨by omega, h2, by omega, he⟩, by omega, Off_reset _ _ _ (by simp), rfl, by omega⟩
  · simp [go_sem]
    rw [List.drop_eq_nil_of_le h] at he
    exact he
theorem szMonomialSS_c (p : List (List Mon)) (left : Int) (hn : p.length ≤ 9223372036854775807) (hr : ∀ m ∈ p, m.length ≤ 9223372036854775807 ∧ ∀ q ∈ m, q.2.length ≤ 9223372036854775807) (h0 : 0 ≤ left) (h1 : left ≤ 9223372036854775807) :
    Con Tryz.prog 75 [.sl p.length (prt p), .int left] (.int (szF left p)) := by
  refine con_of_vc Tryz.mixed ⟨6, [], [], []⟩ Tryz.func75 (by decide) rfl (by simp) (by decide) (by simp [freshOK, freshL, go_sem]) ?_
  rw [Tryz.ntmps75]
  simp [go_sem]
  refine ⟨by omega, fun h => ?_, fun h => ?_⟩ <;> simp at h <;> simp [go_sem]
  · unfold szF szA; rw [if_pos (by omega)]
  have e1 : szF left p = szG szP (left - p.length) p := by unfold szF szA; rw [if_neg (by omega)]
  refine loop_inv (1 :: List.range' 4 30) (fun x : Nat × Int => [(1, .int x.2), (5, .int x.1)]) (fun x => x.1 ≤ p.length ∧ 0 ≤ x.2 ∧ x.2 ≤ left ∧ szG szP x.2 (p.drop x.1) = szF left p) (fun x => p.length - x.1) (0, left - p.length) (by simp; omega) (by simp [go_sem]) (by simp [go_sem]) ?_
  rintro ⟨i, l⟩ ⟨hi, hl0, hl1, he⟩
  simp only at hi hl0 hl1 he
  simp [go_sem]
  refine ⟨fun h => ?_, fun h => ?_⟩ <;> simp at h
  · have hx : p[i]?.getD [] ∈ p := by simp [h]
    have hd : p.drop i = p[i]?.getD [] :: p.drop (i + 1) := by rw [List.drop_eq_getElem_cons h]; simp [h]
    have hm := hr _ hx
    simp [go_sem, prt_drop h]
    refine ⟨⟨h, by rintro rfl; simp at h⟩, ?_⟩
    refine CallVC.of (szMonomialS_c _ _ hm.1 hm.2 hl0 (by omega)) (by decide) ?_
    simp [go_sem]
    have k1 := szP_ok.lo l (p[i]?.getD [])
    have k2 := szP_ok.hi l (p[i]?.getD []) hl0
    rw [hd, szG] at he
    refine ⟨fun h2 => ?_, fun h2 => ?_⟩ <;> simp at h2 <;> simp [go_sem]
    · rw [if_pos h2] at he; exact he
    · rw [if_neg (by omega)] at he
      refine ⟨by omega, i + 1, _, ⟨by omega, h2, by omega, he⟩, by omega, Off_reset _ _ _ (by simp), rfl, by omega⟩
  · simp [go_sem]
    rw [List.drop_eq_nil_of_le h] at he
    exact he
def Fit (f : List (List Mon)) : Prop := f.length ≤ 9223372036854775807 ∧ ∀ p ∈ f, p.length ≤ 9223372036854775807 ∧ ∀ q ∈ p, q.2.length ≤ 9223372036854775807
theorem szField_c (z : Int) (f : List (List Mon)) (left : Int) (hf : Fit f) (h0 : 0 ≤ left) (h1 : left ≤ 9223372036854775807) :
    Con Tryz.prog 23 [.agg [.int z, .sl f.length (prt f)], .int left] (.int (szF left f)) := by
  refine con_of_vc Tryz.mixed ⟨5, [], [], []⟩ Tryz.func23 (by decide) rfl (by simp) (by decide) (by simp [freshOK, freshL, go_sem]) ?_
  rw [Tryz.ntmps23]
  simp [go_sem]
  refine CallVC.of (szMonomialSS_c f left hf.1 hf.2 h0 h1) (by decide) ?_
  simp [go_sem]
  have := szF_ok.lo left f
  by_cases h2 : szF left f < 0
  · simp [go_sem, h2]
    omega
  · simp [go_sem, h2]
end Go.Proofs.YtoeikpioonlmfaaGreat


namespace Go.Proofs.YtoeikpioonlmfaaGreat
open Go.ChangeShapes Go.WideShapes Go.ChangeAt Go.RowKit Go.Abs Go.Deep
set_option linter.unusedSectionVars false
set_option linter.unusedVariables false
section
variable {H : Type} {enc : TypeId × Value → H} {w : World} {sp : Nat → Bool} {held : Bool} {base : Nat}
set_option maxRecDepth 100000 in
theorem open_mons {n : Nat} {cs : List Value} {x : DataW H × List MemPlace} (h : DataW.trod enc Tryz.prog w base sp held n 159 cs = some x) :
    ∃ p : List Mon, (∀ m ∈ p, m.2.length ≤ 9223372036854775807) ∧ p.length ≤ 9223372036854775807 ∧ RepL Tryz.prog w (fun b => b < w.heap.size) [.sl p.length (mons p)] cs [] ∧ cs.length = 1 :=
  open_sl (f := fun m : Mon => [AV.int m.1, .sl m.2.length (avs m.2)]) (Good := fun m => m.2.length ≤ 9223372036854775807) Tryz.underlying159 (s := 2) (by kernel_rfl) (by decide) (fun _ => rfl)
    (fun n cs y hy => by
      obtain ⟨c0, c1, y0, y1, m, rfl, k0, k1⟩ := open_st2 Tryz.underlying191 (by kernel_rfl) (by kernel_rfl) hy
      obtain ⟨z, _, a1, _⟩ := open_i Tryz.underlying2 (F := fun b => b < w.heap.size) k0
      obtain ⟨xs, _, b1, b2, _⟩ := open_vec k1
      exact ⟨(z, xs), b1, RepL.two a1 b2⟩) h
set_option maxRecDepth 100000 in
theorem open_prt {n : Nat} {cs : List Value} {x : DataW H × List MemPlace} (h : DataW.trod enc Tryz.prog w base sp held n 46 cs = some x) :
    ∃ f : List (List Mon), Fit f ∧ RepL Tryz.prog w (fun b => b < w.heap.size) [.sl f.length (prt f)] cs [] ∧ cs.length = 1 := by
  obtain ⟨qs, h1, h2, h3, h4⟩ := open_sl (f := fun p : List Mon => [AV.sl p.length (mons p)]) (Good := fun p => p.length ≤ 9223372036854775807 ∧ ∀ q ∈ p, q.2.length ≤ 9223372036854775807) Tryz.underlying46 (s := 1) (by kernel_rfl) (by decide) (fun _ => rfl)
    (fun n cs y hy => by
      obtain ⟨p, a1, a2, a3, _⟩ := open_mons hy
      exact ⟨p, ⟨a2, a1⟩, a3⟩) h
  exact ⟨qs, ⟨h2, h1⟩, by rw [flat1] at h3; exact h3, h4⟩
set_option maxRecDepth 100000 in
theorem open_fld {r : Reach} {b0 : Nat} {v : Value} {d : DataW H} {p : List MemPlace} (hv : Value.okWide Tryz.prog w r b0 48 v) (h : DataW.Trod enc Tryz.prog w base sp held 48 v d p) :
    ∃ (z : Int) (f : List (List Mon)), Fit f ∧ ∀ tm oss, RepT Tryz.prog w (fun b => b < w.heap.size) tm oss (.agg [.int z, .sl f.length (prt f)]) v [] := by
  obtain ⟨v0, v1, y0, y1, n, rfl, rfl, rfl, k0, k1⟩ := Joins.open_agg2 Tryz.underlying48 (by kernel_rfl) (by kernel_rfl) hv h
  obtain ⟨z, _, a1, _⟩ := open_i Tryz.underlying2 (F := fun b => b < w.heap.size) k0
  obtain ⟨f, b1, b2, _⟩ := open_prt k1
  exact ⟨z, f, b1, fun tm oss => .agg _ [v0, v1] [] rfl (.cons _ _ [] _ _ [] (rep_one a1) (.cons _ _ [] _ _ [] (rep_one b2) (.nil _)))⟩
end
end Go.Proofs.YtoeikpioonlmfaaGreat


namespace Go.Proofs.YtoeikpioonlmfaaGreat
open Go.Abs
set_option linter.unusedSectionVars false
set_option linter.unusedVariables false
set_option linter.unusedSimpArgs false
set_option maxHeartbeats 1000000
theorem szRs_ok : ∀ (A : List (List Int)) {left : Int}, 0 ≤ left → 0 ≤ szRs left A → (sumL A : Int) ≤ left ∧ szRs left A = left - sumL A ∧ ∀ r ∈ A, (r.length : Int) ≤ left
  | [], left, h0, h => by simp [szRs, sumL]; exact h0
  | r :: rs, left, h0, h => by
    rw [szRs] at h ⊢
    split at h
    · omega
    · rename_i hs
      have e : szR left r.length = left - r.length := by
        unfold szR at hs ⊢
        by_cases h1 : left - (r.length : Int) < 0
        · rw [if_pos h1] at hs; omega
        · rw [if_neg h1]
      rw [e] at hs h
      have := szRs_ok rs (by omega) h
      rw [if_neg (by rw [e]; exact hs), e]
      refine ⟨by simp [sumL]; omega, by simp [sumL]; omega, fun q hq => ?_⟩
      rcases List.mem_cons.1 hq with rfl | hq
      · omega
      · have := this.2.2 q hq; omega
theorem szM_ok {A : List (List Int)} {left : Int} (h0 : 0 ≤ left) (h : 0 ≤ szM left A) : (A.length : Int) + sumL A ≤ left ∧ szM left A = left - A.length - sumL A ∧ ∀ r ∈ A, (r.length : Int) ≤ left := by
  unfold szM at h ⊢
  split at h
  · omega
  · rename_i hs
    have e : szR left A.length = left - A.length := by
      unfold szR at hs ⊢
      by_cases h1 : left - (A.length : Int) < 0
      · rw [if_pos h1] at hs; omega
      · rw [if_neg h1]
    rw [e] at hs h
    rw [if_neg (by rw [e]; exact hs), e]
    have := szRs_ok A (by omega) h
    refine ⟨by omega, by omega, fun r hr => by have := this.2.2 r hr; omega⟩
end Go.Proofs.YtoeikpioonlmfaaGreat


namespace Go.Proofs.YtoeikpioonlmfaaGreat
set_option linter.unusedSectionVars false
set_option linter.unusedVariables false
set_option linter.unusedSimpArgs false
abbrev Key3 := Int × Int × Int
def sumI {α : Type} (f : α → Int) : List α → Int
  | [] => 0
  | a :: l => f a + sumI f l
theorem sumI_app {α : Type} (f : α → Int) (l r : List α) : sumI f (l ++ r) = sumI f l + sumI f r := by
  induction l with
  | nil => simp [sumI]
  | cons a l ih => simp [sumI, ih]; omega
theorem sumI_add {α : Type} (f g : α → Int) : ∀ l : List α, sumI (fun a => f a + g a) l = sumI f l + sumI g l
  | [] => rfl
  | a :: l => by simp only [sumI, sumI_add f g l]; omega
theorem sumI_mul {α : Type} (c : Int) (f : α → Int) : ∀ l : List α, sumI (fun a => c * f a) l = c * sumI f l
  | [] => by simp [sumI]
  | a :: l => by simp only [sumI, sumI_mul c f l, Int.mul_add]
theorem sumI_zero {α : Type} {f : α → Int} : ∀ {l : List α}, (∀ a ∈ l, f a = 0) → sumI f l = 0
  | [], _ => rfl
  | a :: l, h => by simp only [sumI, h a (by simp), sumI_zero (l := l) (fun b hb => h b (by simp [hb]))]; rfl
theorem sumI_congr {α : Type} {f g : α → Int} : ∀ {l : List α}, (∀ a ∈ l, f a = g a) → sumI f l = sumI g l
  | [], _ => rfl
  | a :: l, h => by simp only [sumI, h a (by simp), sumI_congr (l := l) (fun b hb => h b (by simp [hb]))]
theorem sumI_mod {α : Type} {P : Int} {f g : α → Int} : ∀ {l : List α}, (∀ a ∈ l, f a % P = g a % P) → sumI f l % P = sumI g l % P
  | [], _ => rfl
  | a :: l, h => by
    simp only [sumI]
    rw [Int.add_emod, h a (by simp), sumI_mod (l := l) (fun b hb => h b (by simp [hb])), ← Int.add_emod]
theorem sumI_swap {α β : Type} (f : α → β → Int) : ∀ (l : List α) (r : List β), sumI (fun a => sumI (fun b => f a b) r) l = sumI (fun b => sumI (fun a => f a b) l) r
  | [], r => by simp only [sumI]; exact (sumI_zero (fun _ _ => rfl)).symm
  | a :: l, r => by
    simp only [sumI]
    rw [sumI_swap f l r, ← sumI_add]
def r4 : List Int := [0, 1, 2, 3]
def box : List Key3 := r4.flatMap fun i => r4.flatMap fun j => r4.map fun k => (i, j, k)
theorem mem_box {k : Key3} : k ∈ box ↔ 0 ≤ k.1 ∧ k.1 ≤ 3 ∧ 0 ≤ k.2.1 ∧ k.2.1 ≤ 3 ∧ 0 ≤ k.2.2 ∧ k.2.2 ≤ 3 := by
  obtain ⟨a, b, c⟩ := k
  have h4 : ∀ x : Int, x ∈ r4 ↔ 0 ≤ x ∧ x ≤ 3 := fun x => by simp [r4]; omega
  simp only [box, List.mem_flatMap, List.mem_map, Prod.mk.injEq]
  constructor
  · rintro ⟨i, hi, j, hj, k, hk, rfl, rfl, rfl⟩
    have := (h4 i).1 hi; have := (h4 j).1 hj; have := (h4 k).1 hk
    omega
  · rintro ⟨h1, h2, h3, h5, h6, h7⟩
    exact ⟨a, (h4 a).2 ⟨h1, h2⟩, b, (h4 b).2 ⟨h3, h5⟩, c, (h4 c).2 ⟨h6, h7⟩, rfl, rfl, rfl⟩
def coef {α : Type} (key : α → Key3) (num : α → Int) (l : List α) (k : Key3) : Int := sumI (fun a => if k = key a then num a else 0) l
def at3 (i : Nat) (k : Key3) : Int := if i = 0 then k.1 else if i = 1 then k.2.1 else k.2.2
end Go.Proofs.YtoeikpioonlmfaaGreat


namespace Go.Proofs.YtoeikpioonlmfaaGreat
open Go.Abs
set_option linter.unusedSectionVars false
set_option linter.unusedVariables false
set_option linter.unusedSimpArgs false
set_option maxHeartbeats 1000000
theorem toMonomial_c (m : Mon) (hl : m.2.length ≤ 1048576) :
    Con Tryz.prog 202 [.agg [.int m.1, .sl m.2.length (avs m.2)]] (.agg [.int m.1, .own 2 m.2.length (avs m.2)]) := by
  refine con_of_vc Tryz.mixed ⟨4, [], [], []⟩ Tryz.func202 (by decide) rfl (by simp) (by decide) (by simp [freshOK, freshL, go_sem]) ?_
  rw [Tryz.ntmps202]
  simp [go_sem]
  refine CallVC.of (toInt64S_c m.2 hl) (by decide) ?_
  simp [go_sem]
def zer (k : Nat) : List AV := (List.replicate k [AV.val (.int .i64 0), AV.val (.slice none 0 0)]).flatten
@[simp] theorem zer_len (k : Nat) : (zer k).length = k * 2 := by
  induction k with
  | zero => rfl
  | succ k ih => unfold zer at ih ⊢; rw [List.replicate_succ, List.flatten_cons]; simp [ih]; omega
theorem zer_succ (k : Nat) : zer (k + 1) = .val (.int .i64 0) :: .val (.slice none 0 0) :: zer k := by simp [zer, List.replicate_succ]
theorem omons_app (p q : List Mon) : omons (p ++ q) = omons p ++ omons q := by simp [omons]
theorem fill2 (p : List Mon) (i : Nat) (h : i < p.length) : ((omons (p.take i) ++ zer (p.length - i)).set (i * 2) (.int (p[i]?.getD (0, [])).1)).set (i * 2 + 1) (.own 2 (p[i]?.getD (0, [])).2.length (avs (p[i]?.getD (0, [])).2)) = omons (p.take (i + 1)) ++ zer (p.length - (i + 1)) := by
  obtain ⟨k, hk⟩ : ∃ k, p.length - i = k + 1 := ⟨p.length - i - 1, by omega⟩
  have hl : (omons (p.take i)).length = i * 2 := by simp; omega
  have e1 : i * 2 - i * 2 = 0 := by omega
  have e2 : i * 2 + 1 - i * 2 = 1 := by omega
  have e3 : p.take (i + 1) = p.take i ++ [p[i]?.getD (0, [])] := by rw [List.take_add_one]; simp [h]
  rw [show p.length - (i + 1) = k by omega, hk, zer_succ, List.set_append_right _ _ (by omega), List.set_append_right _ _ (by omega), hl, e1, e2, e3, omons_app]
  simp [omons]
theorem toMonomialS_c (p : List Mon) (hl : p.length ≤ 1048576) (hr : ∀ m ∈ p, m.2.length ≤ 1048576) :
    Con Tryz.prog 149 [.sl p.length (mons p)] (.own 97 p.length (omons p)) := by
  refine con_of_vc Tryz.mixed ⟨5, [], [], []⟩ Tryz.func149 (by decide) rfl (by simp) (by decide) (by simp [freshOK, freshL, go_sem]) ?_
  rw [Tryz.ntmps149]
  simp [go_sem]
  refine ⟨by omega, ?_⟩
  refine loop_inv (3 :: 4 :: List.range' 8 14) (fun i : Nat => [(3, .own 97 p.length (omons (p.take i) ++ zer (p.length - i))), (4, .int i)]) (fun i => i ≤ p.length) (fun i => p.length - i) 0 (by simp) (by simp [go_sem]; rfl) (by simp [go_sem]) ?_
  intro i hi
  simp [go_sem]
  refine ⟨fun h => ?_, fun h => ?_⟩ <;> simp at h
  · have hx : p[i]?.getD (0, []) ∈ p := by simp [h]
    have hm := hr _ hx
    simp [go_sem, mons_drop h]
    refine ⟨⟨h, by rintro rfl; simp at h⟩, ?_⟩
    refine CallVC.of (toMonomial_c _ hm) (by decide) ?_
    simp [go_sem]
    refine ⟨h, ⟨by omega, fun _ => ?_⟩, by omega, i + 1, by omega, by omega, Off_reset _ _ _ (by simp), fill2 p i h, by omega⟩
    obtain ⟨q, hq⟩ : ∃ q, p.length - i = q + 1 := ⟨p.length - i - 1, by omega⟩
    rw [hq, zer_succ]; simp
  · simp [go_sem]
    have e : i = p.length := by omega
    subst e
    simp [zer]
theorem toMonomialSS_c (f : List (List Mon)) (hl : f.length ≤ 1048576) (hr : ∀ p ∈ f, p.length ≤ 1048576 ∧ ∀ m ∈ p, m.2.length ≤ 1048576) :
    Con Tryz.prog 81 [.sl f.length (prt f)] (.own 92 f.length (oprt f)) := by
  refine con_of_vc Tryz.mixed ⟨5, [], [], []⟩ Tryz.func81 (by decide) rfl (by simp) (by decide) (by simp [freshOK, freshL, go_sem]) ?_
  rw [Tryz.ntmps81]
  simp [go_sem]
  refine ⟨by omega, ?_⟩
  refine loop_inv (3 :: 4 :: List.range' 8 14) (fun i : Nat => [(3, .own 92 f.length (oprt (f.take i) ++ List.replicate (f.length - i) (.val (.slice none 0 0)))), (4, .int i)]) (fun i => i ≤ f.length) (fun i => f.length - i) 0 (by simp) (by simp [go_sem, oprt]) (by simp [go_sem]) ?_
  intro i hi
  simp [go_sem]
  refine ⟨fun h => ?_, fun h => ?_⟩ <;> simp at h
  · have hx : f[i]?.getD [] ∈ f := by simp [h]
    have hm := hr _ hx
    simp [go_sem, prt_drop h]
    refine ⟨⟨h, by rintro rfl; simp at h⟩, ?_⟩
    refine CallVC.of (toMonomialS_c _ hm.1 hm.2) (by decide) ?_
    simp [go_sem]
    refine ⟨h, by omega, by omega, i + 1, by omega, by omega, Off_reset _ _ _ (by simp), ?_, by omega⟩
    have e1 : ∀ k, oprt (f.take k) = (oprt f).take k := fun k => by simp [oprt, List.map_take]
    have := fill_step (oprt f) (.val (.slice none 0 0)) (.own 97 (f[i]?.getD []).length (omons (f[i]?.getD []))) i (by simpa using h) (by simp [oprt, h])
    rw [oprt_len] at this
    rw [e1, e1]
    exact this
  · simp [go_sem]
    have e : i = f.length := by omega
    subst e; simp
theorem toField_c (z : Int) (f : List (List Mon)) (hl : f.length ≤ 1048576) (hr : ∀ p ∈ f, p.length ≤ 1048576 ∧ ∀ m ∈ p, m.2.length ≤ 1048576) :
    Con Tryz.prog 26 [.agg [.int z, .sl f.length (prt f)]] (.agg [.int z, .own 92 f.length (oprt f)]) := by
  refine con_of_vc Tryz.mixed ⟨4, [], [], []⟩ Tryz.func26 (by decide) rfl (by simp) (by decide) (by simp [freshOK, freshL, go_sem]) ?_
  rw [Tryz.ntmps26]
  simp [go_sem]
  refine CallVC.of (toMonomialSS_c f hl hr) (by decide) ?_
  simp [go_sem]
theorem eqMonomial_c (m : Mon) (hl : m.2.length ≤ 9223372036854775807) :
    Con Tryz.prog 205 [.agg [.int m.1, .sl m.2.length (avs m.2)], .agg [.int m.1, .sl m.2.length (avs m.2)]] (.bool true) := by
  have ce := eqInt64S_c m.2 m.2 hl
  simp at ce
  refine con_of_vc Tryz.mixed ⟨5, [], [], []⟩ Tryz.func205 (by decide) rfl (by simp) (by decide) (by simp [freshOK, freshL, go_sem]) ?_
  rw [Tryz.ntmps205]
  simp [go_sem]
  refine CallVC.of (ce) (by decide) ?_
  simp [go_sem]
theorem eqMonomialS_c (p : List Mon) (hl : p.length ≤ 9223372036854775807) (hr : ∀ m ∈ p, m.2.length ≤ 9223372036854775807) :
    Con Tryz.prog 154 [.sl p.length (mons p), .sl p.length (mons p)] (.bool true) := by
  refine con_of_vc Tryz.mixed ⟨6, [], [], []⟩ Tryz.func154 (by decide) rfl (by simp) (by decide) (by simp [freshOK, freshL, go_sem]) ?_
  rw [Tryz.ntmps154]
  simp [go_sem]
  refine loop_inv (4 :: 5 :: List.range' 11 16) (fun i : Nat => [(5, .int i)]) (fun i => i ≤ p.length) (fun i => p.length - i) 0 (by simp) (by simp [go_sem]) (by simp [go_sem]) ?_
  intro i hi
  simp [go_sem]
  refine ⟨fun h => ?_, fun h => ?_⟩ <;> simp at h
  · have hx : p[i]?.getD (0, []) ∈ p := by simp [h]
    simp [go_sem, mons_drop h]
    refine ⟨by kernel_rfl, ⟨h, by rintro rfl; simp at h⟩, ?_⟩
    refine CallD.of (eqMonomial_c _ (hr _ hx)) (by simp [roots, rootsL]) (by decide) ?_
    simp [go_sem]
    refine ⟨by kernel_rfl, ?_⟩
    simp [go_sem]
    refine ⟨by omega, i + 1, by omega, by omega, Off_reset _ _ _ (by simp), by omega⟩
  · simp [go_sem]
theorem eqMonomialSS_c (f : List (List Mon)) (hf : Fit f) :
    Con Tryz.prog 86 [.sl f.length (prt f), .sl f.length (prt f)] (.bool true) := by
  have hl := hf.1
  refine con_of_vc Tryz.mixed ⟨6, [], [], []⟩ Tryz.func86 (by decide) rfl (by simp) (by decide) (by simp [freshOK, freshL, go_sem]) ?_
  rw [Tryz.ntmps86]
  simp [go_sem]
  refine loop_inv (4 :: 5 :: List.range' 11 16) (fun i : Nat => [(5, .int i)]) (fun i => i ≤ f.length) (fun i => f.length - i) 0 (by simp) (by simp [go_sem]) (by simp [go_sem]) ?_
  intro i hi
  simp [go_sem]
  refine ⟨fun h => ?_, fun h => ?_⟩ <;> simp at h
  · have hx : f[i]?.getD [] ∈ f := by simp [h]
    simp [go_sem, prt_drop h]
    refine ⟨by kernel_rfl, ⟨h, by rintro rfl; simp at h⟩, ?_⟩
    refine CallD.of (eqMonomialS_c _ (hf.2 _ hx).1 (hf.2 _ hx).2) (by simp [roots, rootsL]) (by decide) ?_
    simp [go_sem]
    refine ⟨by kernel_rfl, ?_⟩
    simp [go_sem]
    refine ⟨by omega, i + 1, by omega, by omega, Off_reset _ _ _ (by simp), by omega⟩
  · simp [go_sem]
theorem eqField_c (z : Int) (f : List (List Mon)) (hf : Fit f) :
    Con Tryz.prog 29 [.agg [.int z, .sl f.length (prt f)], .agg [.int z, .sl f.length (prt f)]] (.bool true) := by
  refine con_of_vc Tryz.mixed ⟨5, [], [], []⟩ Tryz.func29 (by decide) rfl (by simp) (by decide) (by simp [freshOK, freshL, go_sem]) ?_
  rw [Tryz.ntmps29]
  simp [go_sem]
  refine CallVC.of (eqMonomialSS_c f hf) (by decide) ?_
  simp [go_sem]
def marksS : List Mon → Int → List Mon
  | [], _ => []
  | m :: p, k => (k, marks m.2.length (k + 1)) :: marksS p (k + 1 + m.2.length)
@[simp] theorem marksS_len : ∀ (p : List Mon) (k : Int), (marksS p k).length = p.length
  | [], _ => rfl
  | m :: p, k => by simp [marksS, marksS_len p]
theorem sumC_app {α : Type} (c : α → Nat) (l r : List α) : sumC c (l ++ r) = sumC c l + sumC c r := by
  induction l with
  | nil => simp [sumC]
  | cons a l ih => simp [sumC, ih]; omega
theorem sumC_take {α : Type} (c : α → Nat) {l : List α} {i : Nat} (h : i < l.length) : sumC c (l.take (i + 1)) = sumC c (l.take i) + c l[i] := by
  rw [List.take_add_one, sumC_app]; simp [h, sumC]
theorem sumC_le {α : Type} (c : α → Nat) (l : List α) (i : Nat) : sumC c (l.take i) ≤ sumC c l := by
  have := congrArg (sumC c) (List.take_append_drop i l)
  rw [sumC_app] at this; omega
theorem marksS_snoc (p : List Mon) (m : Mon) (k : Int) : marksS (p ++ [m]) k = marksS p k ++ [(k + cP p, marks m.2.length (k + cP p + 1))] := by
  induction p generalizing k with
  | nil => simp [marksS, cP, sumC]
  | cons q p ih =>
    have e : k + 1 + (q.2.length : Int) + cP p = k + cP (q :: p) := by simp [cP, sumC, cM]; omega
    simp [marksS, ih, e]
theorem cP_take {p : List Mon} {i : Nat} (h : i < p.length) : cP (p.take (i + 1)) = cP (p.take i) + 1 + p[i].2.length := by
  unfold cP; rw [sumC_take cM h]; simp [cM]; omega
theorem cP_le (p : List Mon) (i : Nat) : cP (p.take i) ≤ cP p := by
  have := sumC_le cM p i
  unfold cP; simp; omega
theorem markMonomialS_c (p : List Mon) (k : Int) (hl : p.length ≤ 1048576) (hr : ∀ m ∈ p, m.2.length ≤ 1048576) (h0 : 0 ≤ k) (h1 : k + cP p ≤ 9223372036854775807) :
    MCon Tryz.prog 155 [.own 97 p.length (omons p), .int k] (.int (k + cP p)) [.own 97 p.length (omons (marksS p k)), .any] := by
  refine mcon_of_vc Tryz.mixed ⟨6, [], [44], []⟩ [4] [0] Tryz.func155 (by decide) rfl rfl (by simp) (by simp) (by simp) (by decide) ?_
  rw [Tryz.ntmps155]
  simp [go_sem]
  refine loop_inv (0 :: 1 :: 5 :: List.range' 6 20) (fun i : Nat => [(0, .own 97 p.length (omons (marksS (p.take i) k ++ p.drop i))), (1, .int (k + cP (p.take i))), (5, .int i)]) (fun i => i ≤ p.length) (fun i => p.length - i) 0 (by simp) (by simp [go_sem, marksS, cP, sumC]) (by simp [go_sem]) ?_
  intro i hi
  simp [go_sem]
  refine ⟨fun h => ?_, fun h => ?_⟩ <;> simp at h
  · have t1 := cP_take h
    have t2 := cP_le p (i + 1)
    have hm := hr _ (List.getElem_mem h)
    have e0 : p.drop i = p[i] :: p.drop (i + 1) := List.drop_eq_getElem_cons h
    have e4 : marksS (p.take (i + 1)) k = marksS (p.take i) k ++ [(k + cP (p.take i), marks p[i].2.length (k + cP (p.take i) + 1))] := by
      rw [List.take_add_one, List.getElem?_eq_getElem h, Option.toList_some, marksS_snoc]
    have hL : (omons (marksS (p.take i) k)).length = i * 2 := by simp; omega
    have hM0 : omons (marksS (p.take i) k ++ p.drop i) = omons (marksS (p.take i) k) ++ (.int p[i].1 :: .own 2 p[i].2.length (avs p[i].2) :: omons (p.drop (i + 1))) := by rw [omons_app, e0, omons_cons]
    have hfin : ∀ u v, ((omons (marksS (p.take i) k) ++ (.int p[i].1 :: .own 2 p[i].2.length (avs p[i].2) :: omons (p.drop (i + 1)))).set (i * 2) u).set (i * 2 + 1) v = omons (marksS (p.take i) k) ++ (u :: v :: omons (p.drop (i + 1))) := by
      intro u v
      rw [List.set_append_right _ _ (by omega), List.set_append_right _ _ (by omega), hL, show i * 2 - i * 2 = 0 by omega, show i * 2 + 1 - i * 2 = 1 by omega]
      rfl
    rw [hM0]
    generalize hM : omons (marksS (p.take i) k) ++ (.int p[i].1 :: .own 2 p[i].2.length (avs p[i].2) :: omons (p.drop (i + 1))) = M at hfin
    have hML : M.length = p.length * 2 := by rw [← hM]; simp; omega
    have hMi : M[i * 2 + 1]? = some (.own 2 p[i].2.length (avs p[i].2)) := by
      rw [← hM, List.getElem?_append_right (by omega), hL, show i * 2 + 1 - i * 2 = 1 by omega]; rfl
    have m := markInt64S_c 2 p[i].2 (k + cP (p.take i) + 1) (by omega) (by omega)
    have hMn : ¬ M = [] := by rintro rfl; simp at hML; omega
    simp [go_sem, hML, hMi]
    refine ⟨h, hMn, h, ⟨by omega, by omega⟩, h, hMn, ?_⟩
    have hlt : i * 2 + 1 < p.length * 2 := by omega
    refine ⟨_, _, m, ?_⟩
    simp [go_sem, hML, hlt]
    rw [hfin]
    refine ⟨⟨by omega, by omega⟩, i + 1, by omega, by omega, Off_reset _ _ _ (by simp), ?_, by omega, by omega⟩
    rw [omons_app, e4, omons_app, List.append_assoc]
    simp [omons, marks]
  · simp [go_sem]
    rw [List.take_of_length_le h, List.drop_eq_nil_of_le h]
    simp
def marksP : List (List Mon) → Int → List (List Mon)
  | [], _ => []
  | p :: f, k => marksS p k :: marksP f (k + cP p)
@[simp] theorem marksP_len : ∀ (f : List (List Mon)) (k : Int), (marksP f k).length = f.length
  | [], _ => rfl
  | m :: p, k => by simp [marksP, marksP_len p]
theorem marksP_snoc (f : List (List Mon)) (p : List Mon) (k : Int) : marksP (f ++ [p]) k = marksP f k ++ [marksS p (k + sumC cP f)] := by
  induction f generalizing k with
  | nil => simp [marksP, sumC]
  | cons q f ih =>
    have e : k + (cP q : Int) + sumC cP f = k + sumC cP (q :: f) := by simp [sumC]; omega
    simp [marksP, ih, e]
theorem oprt_app (f g : List (List Mon)) : oprt (f ++ g) = oprt f ++ oprt g := by simp [oprt]
theorem markMonomialSS_c (f : List (List Mon)) (k : Int) (hl : f.length ≤ 1048576) (hr : ∀ p ∈ f, p.length ≤ 1048576 ∧ ∀ m ∈ p, m.2.length ≤ 1048576) (h0 : 0 ≤ k) (h1 : k + sumC cP f ≤ 9223372036854775807) :
    MCon Tryz.prog 87 [.own 92 f.length (oprt f), .int k] (.int (k + sumC cP f)) [.own 92 f.length (oprt (marksP f k)), .any] := by
  refine mcon_of_vc Tryz.mixed ⟨6, [], [155], []⟩ [4] [0] Tryz.func87 (by decide) rfl rfl (by simp) (by simp) (by simp) (by decide) ?_
  rw [Tryz.ntmps87]
  simp [go_sem]
  refine loop_inv (0 :: 1 :: 5 :: List.range' 6 12) (fun i : Nat => [(0, .own 92 f.length (oprt (marksP (f.take i) k ++ f.drop i))), (1, .int (k + sumC cP (f.take i))), (5, .int i)]) (fun i => i ≤ f.length) (fun i => f.length - i) 0 (by simp) (by simp [go_sem, marksP, sumC]) (by simp [go_sem]) ?_
  intro i hi
  simp [go_sem]
  refine ⟨fun h => ?_, fun h => ?_⟩ <;> simp at h
  · have t1 := sumC_take cP h
    have t2 := sumC_le cP f (i + 1)
    have hm := hr _ (List.getElem_mem h)
    have e0 : f.drop i = f[i] :: f.drop (i + 1) := List.drop_eq_getElem_cons h
    have e4 : marksP (f.take (i + 1)) k = marksP (f.take i) k ++ [marksS f[i] (k + sumC cP (f.take i))] := by
      rw [List.take_add_one, List.getElem?_eq_getElem h, Option.toList_some, marksP_snoc]
    have hL : (oprt (marksP (f.take i) k)).length = i := by simp; omega
    have hM0 : oprt (marksP (f.take i) k ++ f.drop i) = oprt (marksP (f.take i) k) ++ (.own 97 f[i].length (omons f[i]) :: oprt (f.drop (i + 1))) := by rw [oprt_app, e0]; rfl
    have hfin : ∀ u, (oprt (marksP (f.take i) k) ++ (.own 97 f[i].length (omons f[i]) :: oprt (f.drop (i + 1)))).set i u = oprt (marksP (f.take i) k) ++ (u :: oprt (f.drop (i + 1))) := by
      intro u
      rw [List.set_append_right _ _ (by omega), hL, show i - i = 0 by omega]
      rfl
    rw [hM0]
    generalize hM : oprt (marksP (f.take i) k) ++ (.own 97 f[i].length (omons f[i]) :: oprt (f.drop (i + 1))) = M at hfin
    have hML : M.length = f.length := by rw [← hM]; simp; omega
    have hMi : M[i]? = some (.own 97 f[i].length (omons f[i])) := by
      rw [← hM, List.getElem?_append_right (by omega), hL, show i - i = 0 by omega]; rfl
    have m := markMonomialS_c f[i] (k + sumC cP (f.take i)) hm.1 hm.2 (by omega) (by omega)
    have hMn : ¬ M = [] := by rintro rfl; simp at hML; omega
    simp [go_sem, hML, hMi]
    refine ⟨h, _, _, m, ?_⟩
    simp [go_sem, hML, h]
    rw [hfin]
    refine ⟨⟨by omega, by omega⟩, i + 1, by omega, by omega, Off_reset _ _ _ (by simp), ?_, by omega, by omega⟩
    rw [oprt_app, e4, oprt_app, List.append_assoc]
    simp [oprt]
  · simp [go_sem]
    rw [List.take_of_length_le h, List.drop_eq_nil_of_le h]
    simp
theorem markField_c (z : Int) (f : List (List Mon)) (k : Int) (hl : f.length ≤ 1048576) (hr : ∀ p ∈ f, p.length ≤ 1048576 ∧ ∀ m ∈ p, m.2.length ≤ 1048576) (h0 : 0 ≤ k) (h1 : k + sumC cP f ≤ 9223372036854775807) :
    MCon Tryz.prog 31 [.agg [.int z, .own 92 f.length (oprt f)], .int k] (.int (k + sumC cP f)) [.agg [.int z, .own 92 f.length (oprt (marksP f k))], .any] := by
  refine mcon_of_vc Tryz.mixed ⟨5, [], [87], []⟩ [4] [0] Tryz.func31 (by decide) rfl rfl (by simp) (by simp) (by simp) (by decide) ?_
  rw [Tryz.ntmps31]
  simp [go_sem]
  refine ⟨_, _, markMonomialSS_c f k hl hr h0 h1, ?_⟩
  simp [go_sem]
end Go.Proofs.YtoeikpioonlmfaaGreat


namespace Go.Proofs.YtoeikpioonlmfaaGreat
open Go.Abs
set_option linter.unusedSectionVars false
set_option linter.unusedVariables false
set_option linter.unusedSimpArgs false
set_option maxHeartbeats 1000000
theorem avs_at' {xs : List Int} {k : Nat} (h : k < xs.length) : (avs xs)[k]? = some (AV.val (.int .i64 (xs[k]?.getD 0))) := by simp [avs, h]
def ltL : List Int → List Int → Bool
  | _, [] => false
  | [], _ :: _ => true
  | x :: xs, y :: ys => if x = y then ltL xs ys else decide (x < y)
theorem ltL_at : ∀ {a b : List Int} {i : Nat}, i < a.length → i < b.length → a.take i = b.take i → a[i]?.getD 0 ≠ b[i]?.getD 0 → ltL a b = decide (a[i]?.getD 0 < b[i]?.getD 0)
  | x :: a, y :: b, 0, _, _, _, h => by
    simp at h
    simp [ltL, h]
  | x :: a, y :: b, i + 1, h1, h2, h3, h4 => by
    simp at h3
    simp only [ltL, if_pos h3.1]
    simpa using ltL_at (a := a) (b := b) (i := i) (by simpa using h1) (by simpa using h2) h3.2 (by simpa using h4)
theorem ltL_end : ∀ {a b : List Int} {i : Nat}, a.take i = b.take i → i ≤ a.length → i ≤ b.length → (a.length ≤ i ∨ b.length ≤ i) → ltL a b = decide (a.length < b.length)
  | _, [], i, _, _, _, _ => by simp [ltL]
  | [], _ :: _, i, _, _, _, _ => by simp [ltL]
  | x :: a, y :: b, 0, _, h1, h2, h3 => by simp at h3
  | x :: a, y :: b, i + 1, h, h1, h2, h3 => by
    simp at h
    simp only [ltL, if_pos h.1]
    have := ltL_end (a := a) (b := b) (i := i) h.2 (by simpa using h1) (by simpa using h2) (by simpa using h3)
    rw [this]; simp
theorem take_ext {a b : List Int} {i : Nat} (h1 : i < a.length) (h2 : i < b.length) (h : a.take i = b.take i) (e : a[i]?.getD 0 = b[i]?.getD 0) : a.take (i + 1) = b.take (i + 1) := by
  rw [List.getElem?_eq_getElem h1, List.getElem?_eq_getElem h2] at e
  simp at e
  rw [List.take_add_one, List.take_add_one, h, List.getElem?_eq_getElem h1, List.getElem?_eq_getElem h2, e]
set_option maxRecDepth 100000 in
theorem l01Less_c (a b : List Int) (ha : a.length ≤ 9223372036854775807) (hb : b.length ≤ 9223372036854775807) : Con Tryz.prog 131 [.sl a.length (avs a), .sl b.length (avs b)] (.bool (ltL a b)) := by
  refine con_of_vc Tryz.mixed ⟨6, [], [], []⟩ Tryz.func131 (by decide) rfl (by simp) (by decide) (by simp [freshOK, freshL, go_sem]) ?_
  rw [Tryz.ntmps131]
  simp [go_sem]
  refine loop_inv (4 :: 5 :: List.range' 6 30) (fun i : Nat => [(5, .int i)]) (fun i => i ≤ a.length ∧ i ≤ b.length ∧ a.take i = b.take i) (fun i => a.length - i) 0 (by simp) (by simp [go_sem]) (by simp [go_sem]) ?_
  rintro i ⟨hi, hj, he⟩
  by_cases h1 : i < a.length
  · by_cases h2 : i < b.length
    · have h1' : (i : Int) < a.length := by omega
      have h2' : (i : Int) < b.length := by omega
      by_cases hd : a[i]?.getD 0 = b[i]?.getD 0
      · simp [go_sem, h1, h2, h1', h2', avs_drop h1, avs_drop h2, hd]
        refine ⟨by kernel_rfl, by rintro rfl; simp at h1, by rintro rfl; simp at h2, ?_⟩
        have hd2 : a[i] = b[i] := by simpa [h1, h2] using hd
        refine ⟨by kernel_rfl, ?_⟩
        simp [go_sem]
        simp [go_sem, hd2]
        refine ⟨by omega, i + 1, ⟨by omega, by omega, take_ext h1 h2 he hd⟩, by omega, Off_reset _ _ _ (by simp), by omega⟩
      · simp [go_sem, h1, h2, h1', h2', avs_drop h1, avs_drop h2, hd]
        refine ⟨by kernel_rfl, by rintro rfl; simp at h1, by rintro rfl; simp at h2, ?_⟩
        have hd2 : ¬ a[i] = b[i] := by simpa [h1, h2] using hd
        refine ⟨by kernel_rfl, ?_⟩
        simp [go_sem]
        simp [go_sem, hd2, avs_drop h1, avs_drop h2]
        refine ⟨by kernel_rfl, ⟨h1, by rintro rfl; simp at h1⟩, ⟨h2, by rintro rfl; simp at h2⟩, ?_⟩
        refine ⟨by kernel_rfl, ?_⟩
        simp [go_sem]
        rw [ltL_at h1 h2 he hd]
    · have h2' : ¬ (i : Int) < b.length := by omega
      simp [go_sem, h1, h2, h2']
      rw [ltL_end he hi hj (.inr (by omega))]
  · simp [go_sem, h1]
    rw [ltL_end he hi hj (.inl (by omega))]
def degL : List Int → Int → Int
  | [], s => s
  | x :: xs, s => if x < 0 ∨ 100 < x then 1000 else degL xs (s + x)
set_option maxRecDepth 100000 in
theorem l13Degree_c (a : List Int) (ha : a.length ≤ 1048576) : Con Tryz.prog 68 [.sl a.length (avs a)] (.int (degL a 0)) := by
  refine con_of_vc Tryz.mixed ⟨5, [], [], []⟩ Tryz.func68 (by decide) rfl (by simp) (by decide) (by simp [freshOK, freshL, go_sem]) ?_
  rw [Tryz.ntmps68]
  simp [go_sem]
  refine loop_inv (2 :: 3 :: 4 :: List.range' 5 24) (fun x : Nat × Int => [(3, .int x.2), (4, .int x.1)]) (fun x => x.1 ≤ a.length ∧ 0 ≤ x.2 ∧ x.2 ≤ 100 * x.1 ∧ degL (a.drop x.1) x.2 = degL a 0) (fun x => a.length - x.1) (0, 0) (by simp) (by simp [go_sem]) (by simp [go_sem]) ?_
  rintro ⟨i, s⟩ ⟨hi, hs0, hs1, he⟩
  simp only at hi hs0 hs1 he
  simp [go_sem]
  refine ⟨fun h => ?_, fun h => ?_⟩ <;> simp at h
  · have hd : a.drop i = a[i]?.getD 0 :: a.drop (i + 1) := by rw [List.drop_eq_getElem_cons h]; simp [h]
    rw [hd, degL] at he
    by_cases b1 : a[i]?.getD 0 < 0
    · simp [go_sem, avs_drop h, b1]
      rw [if_pos (.inl b1)] at he
      exact ⟨⟨h, by rintro rfl; simp at h⟩, he⟩
    · by_cases b2 : 100 < a[i]?.getD 0
      · simp [go_sem, avs_drop h, b1, b2]
        rw [if_pos (.inr b2)] at he
        exact ⟨⟨h, by rintro rfl; simp at h⟩, he⟩
      · simp [go_sem, avs_drop h, b1, b2]
        rw [if_neg (by omega)] at he
        refine ⟨⟨h, by rintro rfl; simp at h⟩, by omega, by omega, i + 1, _, ⟨by omega, by omega, by omega, he⟩, by omega, Off_reset _ _ _ (by simp), rfl, by omega⟩
  · simp [go_sem]
    rw [List.drop_eq_nil_of_le h] at he
    exact he
def monB (z : Int) (m : Mon) : Bool := decide (1 ≤ m.1 ∧ m.1 ≤ 10006) && decide ((m.2.length : Int) = z) && decide (degL m.2 0 ≤ 3)
def atB (z : Int) (p : List Mon) (j : Nat) : Bool := monB z (p[j]?.getD (0, [])) && (decide (j = 0) || ltL (p[j - 1]?.getD (0, [])).2 (p[j]?.getD (0, [])).2)
def partB (z : Int) (p : List Mon) : Bool := (List.range p.length).all (atB z p)
def fieldB (z : Int) (f : List (List Mon)) : Bool := decide (1 ≤ z ∧ z ≤ 3) && decide ((f.length : Int) = z) && f.all (partB z)
theorem partB_no {z : Int} {p : List Mon} {j : Nat} (hj : j < p.length) (h : atB z p j = false) : partB z p = false := by
  unfold partB; rw [List.all_eq_false]; exact ⟨j, by simpa using hj, by simp [h]⟩
theorem partB_yes {z : Int} {p : List Mon} (h : ∀ j, j < p.length → atB z p j = true) : partB z p = true := by
  unfold partB; rw [List.all_eq_true]; intro j hj; exact h j (by simpa using hj)
theorem fieldB_no {z : Int} {f : List (List Mon)} {i : Nat} (hi : i < f.length) (h : partB z (f[i]?.getD []) = false) : fieldB z f = false := by
  unfold fieldB
  have : f.all (partB z) = false := by rw [List.all_eq_false]; exact ⟨f[i]?.getD [], by simp [hi], by simp [h]⟩
  rw [this]; simp
def Small (f : List (List Mon)) : Prop := f.length ≤ 1048576 ∧ ∀ p ∈ f, p.length ≤ 1048576 ∧ ∀ q ∈ p, q.2.length ≤ 1048576
set_option maxRecDepth 100000 in
theorem l13Is_c (z : Int) (f : List (List Mon)) (hf : Small f) : Con Tryz.prog 56 [.agg [.int z, .sl f.length (prt f)]] (.bool (fieldB z f)) := by
  have fl := hf.1
  refine con_of_vc Tryz.mixed ⟨6, [], [], []⟩ Tryz.func56 (by decide) rfl (by simp) (by decide) (by simp [freshOK, freshL, go_sem]) ?_
  rw [Tryz.ntmps56]
  simp [go_sem]
  refine CallVC.of (l01In_c z 1 3) (by decide) ?_
  simp [go_sem]
  by_cases hz : 1 ≤ z ∧ z ≤ 3
  · by_cases hl : (f.length : Int) = z
    · have fine : fieldB z f = f.all (partB z) := by unfold fieldB; simp [hz, hl]
      simp [go_sem, hz.1, hz.2, hl]
      refine loop_inv (2 :: 3 :: 4 :: 5 :: List.range' 18 61) (fun i : Nat => [(3, .int i)]) (fun i => i ≤ f.length ∧ ∀ p ∈ f.take i, partB z p = true) (fun i => f.length - i) 0 (by simp) (by simp [go_sem]) (by simp [go_sem]) ?_
      rintro i ⟨hi, hp⟩
      simp [go_sem]
      refine ⟨fun h => ?_, fun h => ?_⟩ <;> simp at h
      · have hx : f[i]?.getD [] ∈ f := by simp [h]
        obtain ⟨hm1, hm2⟩ := hf.2 _ hx
        simp [go_sem]
        refine loop_inv (2 :: 4 :: 5 :: List.range' 25 54) (fun j : Nat => [(4, .int j)]) (fun j => j ≤ (f[i]?.getD []).length ∧ ∀ k, k < j → atB z (f[i]?.getD []) k = true) (fun j => (f[i]?.getD []).length - j) 0 (by simp) (by simp [go_sem]) (by simp [go_sem]) ?_
        rintro j ⟨hj, hq⟩
        have hif := h
        simp [go_sem, prt_drop hif]
        refine ⟨⟨hif, by rintro rfl; simp at hif⟩, ?_⟩
        generalize hP : f[i]?.getD [] = P at *
        refine ⟨fun h => ?_, fun h => ?_⟩ <;> simp at h
        · have hy : P[j]?.getD (0, []) ∈ P := by simp [h]
          have hm := hm2 _ hy
          have hno : atB z P j = false → fieldB z f = false := fun hh => fieldB_no hif (by rw [hP]; exact partB_no h hh)
          simp [go_sem, prt_drop hif, hP, mons_drop h]
          refine ⟨⟨hif, by rintro rfl; simp at hif⟩, ⟨h, by rintro rfl; simp at h⟩, ?_⟩
          generalize hM : P[j]?.getD (0, []) = m at *
          have cD := l13Degree_c m.2 hm
          refine CallVC.of (l01In_c _ _ _) (by decide) ?_
          by_cases c1 : 1 ≤ m.1 ∧ m.1 ≤ 10006
          · by_cases c2 : (m.2.length : Int) = z
            · simp [go_sem, c1.1, c1.2, c2]
              refine CallVC.of (cD) (by decide) ?_
              by_cases c3 : degL m.2 0 ≤ 3
              · have c3' : ¬ 3 < degL m.2 0 := by omega
                have hmb : monB z m = true := by unfold monB; simp [c1, c2, c3]
                simp [go_sem, c3']
                refine ⟨by kernel_rfl, ?_⟩
                by_cases j0 : 0 < j
                · have hk : j - 1 < P.length := by omega
                  have ek : (j : Int) - 1 = ((j - 1 : Nat) : Int) := by omega
                  have hyk : P[j - 1]?.getD (0, []) ∈ P := by simp [hk]
                  have hmk := hm2 _ hyk
                  have cL := l01Less_c (P[j - 1]?.getD (0, [])).2 m.2 (by omega) (by omega)
                  have hat : atB z P j = ltL (P[j - 1]?.getD (0, [])).2 m.2 := by unfold atB; rw [hM, hmb, decide_eq_false (by omega : ¬ j = 0)]; simp
                  simp [go_sem, j0, ek, prt_drop hif, hP, mons_drop hk]
                  generalize (P[j - 1]?.getD (0, [])).2 = pw0 at *
                  refine ⟨⟨hif, by rintro rfl; simp at hif⟩, by omega, ⟨hk, by rintro rfl; simp at h⟩, ?_⟩
                  generalize hL : ltL pw0 m.2 = bb at *
                  refine CallD.of (cL) (by simp [roots, rootsL]) (by decide) ?_
                  simp [go_sem]
                  cases bb with
                  | false =>
                    simp [go_sem]
                    refine ⟨by kernel_rfl, ?_⟩
                    simp [go_sem]
                    rw [hno hat]
                  | true =>
                    simp [go_sem]
                    refine ⟨by kernel_rfl, ?_⟩
                    simp [go_sem]
                    refine ⟨by omega, j + 1, ⟨by omega, fun k hk2 => ?_⟩, by omega, Off_reset _ _ _ (by simp), by omega⟩
                    by_cases e : k = j
                    · rw [e]; exact hat
                    · exact hq k (by omega)
                · simp [go_sem, j0]
                  refine ⟨by kernel_rfl, ?_⟩
                  simp [go_sem]
                  have hat : atB z P j = true := by unfold atB; rw [hM, hmb, decide_eq_true (by omega : j = 0)]; rfl
                  refine ⟨by omega, j + 1, ⟨by omega, fun k hk2 => ?_⟩, by omega, Off_reset _ _ _ (by simp), by omega⟩
                  by_cases e : k = j
                  · rw [e]; exact hat
                  · exact hq k (by omega)
              · have c3' : 3 < degL m.2 0 := by omega
                simp [go_sem, c3']
                rw [hno (by unfold atB monB; rw [hM, decide_eq_false c3]; simp)]
            · simp [go_sem, c1.1, c1.2, c2]
              rw [hno (by unfold atB monB; simp [hM, c2])]
          · have c1' : (decide (1 ≤ m.1) && decide (m.1 ≤ 10006)) = false := by simpa using c1
            rw [c1']
            simp [go_sem]
            rw [hno (by unfold atB monB; rw [hM, decide_eq_false c1]; simp)]
        · simp [go_sem]
          have hpb : partB z P = true := partB_yes (fun k hk => hq k (by omega))
          refine ⟨by omega, i + 1, ⟨by omega, take_all hif hp (by rw [← hP] at hpb; simpa [hif] using hpb)⟩, by omega, (Off.reset (by intro x hx; simp at hx ⊢; omega) (by simp) (by simp [go_sem, Off_reset])), by omega⟩
      · simp [go_sem]
        rw [List.take_of_length_le h] at hp
        rw [fine, List.all_eq_true.2 hp]
    · simp [go_sem, hz.1, hz.2, hl]
      unfold fieldB; simp [hl]
  · have hz' : (decide (1 ≤ z) && decide (z ≤ 3)) = false := by simpa using hz
    rw [hz']
    simp [go_sem]
    unfold fieldB; rw [decide_eq_false hz]; simp
end Go.Proofs.YtoeikpioonlmfaaGreat


namespace Go.Proofs.YtoeikpioonlmfaaGreat
open Go.Abs
set_option linter.unusedSectionVars false
set_option linter.unusedVariables false
set_option linter.unusedSimpArgs false
set_option maxHeartbeats 1000000
theorem degL_le : ∀ {xs : List Int} {s : Int}, 0 ≤ s → degL xs s ≤ 3 → (∀ x ∈ xs, 0 ≤ x ∧ x ≤ 3) ∧ s + xs.sum ≤ 3
  | [], s, h0, h => by simpa [degL] using h
  | x :: xs, s, h0, h => by
    rw [degL] at h
    split at h
    · omega
    · rename_i hx
      have hd := degL_le (xs := xs) (s := s + x) (by omega) h
      have pos : ∀ (l : List Int), (∀ x ∈ l, 0 ≤ x ∧ x ≤ 3) → 0 ≤ l.sum := by
        intro l
        induction l with
        | nil => simp
        | cons a l ih => intro h; have h1 := h a (by simp); have h2 := ih (fun x hx => h x (by simp [hx])); simp; omega
      have hs := pos xs hd.1
      have hd2 := hd.2
      refine ⟨fun y hy => ?_, by simp; omega⟩
      rcases List.mem_cons.1 hy with rfl | hy
      · omega
      · exact hd.1 y hy
structure MonOk (z : Int) (m : Mon) : Prop where
  lo : 1 ≤ m.1
  hi : m.1 ≤ 10006
  len : (m.2.length : Int) = z
  pw : ∀ x ∈ m.2, 0 ≤ x ∧ x ≤ 3
  deg : m.2.sum ≤ 3
theorem monB_ok {z : Int} {m : Mon} (h : monB z m = true) : MonOk z m := by
  unfold monB at h
  simp only [Bool.and_eq_true, decide_eq_true_eq] at h
  have := degL_le (by omega : (0 : Int) ≤ 0) h.2
  exact ⟨h.1.1.1, h.1.1.2, h.1.2, this.1, by omega⟩
theorem MonOk.get {z : Int} {m : Mon} (h : MonOk z m) (k : Nat) : 0 ≤ m.2[k]?.getD 0 ∧ m.2[k]?.getD 0 ≤ 3 := by
  rcases Nat.lt_or_ge k m.2.length with hk | hk
  · simp [hk]; exact h.pw _ (List.getElem_mem hk)
  · simp [hk]
structure FieldOk (z : Int) (f : List (List Mon)) : Prop where
  lo : 1 ≤ z
  hi : z ≤ 3
  len : (f.length : Int) = z
  part : ∀ p ∈ f, partB z p = true
theorem fieldB_iff {z : Int} {f : List (List Mon)} : fieldB z f = true ↔ FieldOk z f := by
  unfold fieldB
  simp only [Bool.and_eq_true, decide_eq_true_eq, List.all_eq_true]
  exact ⟨fun ⟨⟨⟨a, b⟩, c⟩, d⟩ => ⟨a, b, c, d⟩, fun ⟨a, b, c, d⟩ => ⟨⟨⟨a, b⟩, c⟩, d⟩⟩
theorem partB_at {z : Int} {p : List Mon} (h : partB z p = true) {j : Nat} (hj : j < p.length) : MonOk z (p[j]?.getD (0, [])) ∧ (0 < j → ltL (p[j - 1]?.getD (0, [])).2 (p[j]?.getD (0, [])).2 = true) := by
  unfold partB at h
  have := (List.all_eq_true.1 h) j (by simpa using hj)
  unfold atB at this
  simp only [Bool.and_eq_true, Bool.or_eq_true, decide_eq_true_eq] at this
  exact ⟨monB_ok this.1, fun h0 => this.2.resolve_left (by omega)⟩
theorem partB_mem {z : Int} {p : List Mon} (h : partB z p = true) {m : Mon} (hm : m ∈ p) : MonOk z m := by
  obtain ⟨j, hj, rfl⟩ := List.getElem_of_mem hm
  have := (partB_at h hj).1
  simpa [hj] using this
end Go.Proofs.YtoeikpioonlmfaaGreat


namespace Go.Proofs.YtoeikpioonlmfaaGreat
open Go.Abs
set_option linter.unusedSectionVars false
set_option linter.unusedVariables false
set_option linter.unusedSimpArgs false
set_option maxHeartbeats 1000000
def cmpI (x y : Int) : Int := if x < y then -1 else if y < x then 1 else 0
theorem isNaN_c [DrawK] (x : Int) : Con Tryz.prog 207 [.int x] (.bool false) := by
  refine con_of_vc Tryz.mixed ⟨3, [], [], []⟩ Tryz.func207 (by decide) rfl (by simp) (by decide) (by simp [freshOK, freshL, go_sem]) ?_
  rw [Tryz.ntmps207]
  simp [go_sem]
theorem Compare1_c [DrawK] (x y : Int) : Con Tryz.prog 162 [.int x, .int y] (.int (cmpI x y)) := by
  refine con_of_vc Tryz.mixed ⟨7, [], [], []⟩ Tryz.func162 (by decide) rfl (by simp) (by decide) (by simp [freshOK, freshL, go_sem]) ?_
  rw [Tryz.ntmps162]
  simp [go_sem]
  refine CallVC.of (isNaN_c _) (by decide) ?_
  simp [go_sem]
  refine CallVC.of (isNaN_c _) (by decide) ?_
  simp [go_sem]
  unfold cmpI
  by_cases h1 : x < y
  · simp [go_sem, h1]
  · by_cases h2 : y < x
    · simp [go_sem, h1, h2]
    · simp [go_sem, h1, h2]
def cmpL : List Int → List Int → Int
  | [], [] => 0
  | [], _ :: _ => -1
  | _ :: _, [] => 1
  | x :: xs, y :: ys => if x = y then cmpL xs ys else cmpI x y
theorem cmpI_ne {x y : Int} (h : x ≠ y) : cmpI x y ≠ 0 := by unfold cmpI; split; omega; split <;> omega
theorem cmpL_lt : ∀ a b : List Int, decide (0 ≤ cmpL a b) = !ltL a b
  | [], [] => by simp [cmpL, ltL]
  | [], _ :: _ => by simp [cmpL, ltL]
  | _ :: _, [] => by simp [cmpL, ltL]
  | x :: xs, y :: ys => by
    rw [cmpL, ltL]
    by_cases h : x = y
    · rw [if_pos h, if_pos h]; exact cmpL_lt xs ys
    · rw [if_neg h, if_neg h]
      unfold cmpI
      by_cases h1 : x < y
      · simp [h1]
      · have : y < x := by omega
        simp [h1, this]
theorem cmpL_at : ∀ {a b : List Int} {i : Nat}, i < a.length → i < b.length → a.take i = b.take i → a[i]?.getD 0 ≠ b[i]?.getD 0 → cmpL a b = cmpI (a[i]?.getD 0) (b[i]?.getD 0)
  | x :: a, y :: b, 0, _, _, _, h => by
    simp at h
    simp [cmpL, h]
  | x :: a, y :: b, i + 1, h1, h2, h3, h4 => by
    simp at h3
    simp only [cmpL, if_pos h3.1]
    simpa using cmpL_at (a := a) (b := b) (i := i) (by simpa using h1) (by simpa using h2) h3.2 (by simpa using h4)
theorem cmpL_more : ∀ {a b : List Int} {i : Nat}, i < a.length → b.length ≤ i → a.take b.length = b → cmpL a b = 1
  | x :: a, [], _, _, _, _ => by simp [cmpL]
  | x :: a, y :: b, 0, _, h, _ => by simp at h
  | x :: a, y :: b, i + 1, h1, h2, h3 => by
    simp at h3
    simp only [cmpL, if_pos h3.1]
    exact cmpL_more (a := a) (b := b) (i := i) (by simpa using h1) (by simpa using h2) h3.2
theorem cmpL_end : ∀ {a b : List Int}, a = b.take a.length → cmpL a b = if a.length < b.length then -1 else 0
  | [], [], _ => by simp [cmpL]
  | [], _ :: _, _ => by simp [cmpL]
  | x :: a, [], h => by simp at h
  | x :: a, y :: b, h => by
    simp at h
    simp only [cmpL, if_pos h.1]
    rw [cmpL_end h.2]; simp
set_option maxRecDepth 100000 in
theorem Compare_c [DrawK] (a b : List Int) (ha : a.length ≤ 9223372036854775807) (hb : b.length ≤ 9223372036854775807) : Con Tryz.prog 99 [.sl a.length (avs a), .sl b.length (avs b)] (.int (cmpL a b)) := by
  refine con_of_vc Tryz.mixed ⟨9, [], [], []⟩ Tryz.func99 (by decide) rfl (by simp) (by decide) (by simp [freshOK, freshL, go_sem]) ?_
  rw [Tryz.ntmps99]
  simp [go_sem]
  refine loop_inv (4 :: 5 :: 6 :: 7 :: 8 :: List.range' 11 20) (fun i : Nat => [(11, .int i)]) (fun i => i ≤ a.length ∧ i ≤ b.length ∧ a.take i = b.take i) (fun i => a.length - i) 0 (by simp) (by simp [go_sem]) (by simp [go_sem]) ?_
  rintro i ⟨hi, hj, he⟩
  simp [go_sem]
  refine ⟨fun h => ?_, fun h => ?_⟩ <;> simp at h
  · have h1 := h
    simp [go_sem, avs_drop h1]
    refine ⟨⟨h1, by rintro rfl; simp at h1⟩, ?_⟩
    by_cases h2 : i < b.length
    · have h2' : ¬ (b.length ≤ i) := by omega
      simp [go_sem, h2', avs_drop h2]
      refine ⟨⟨h2, by rintro rfl; simp at h2⟩, ?_⟩
      refine CallVC.of (Compare1_c _ _) (by decide) ?_
      simp [go_sem]
      by_cases hd : a[i]?.getD 0 = b[i]?.getD 0
      · have hc : cmpI (a[i]?.getD 0) (b[i]?.getD 0) = 0 := by unfold cmpI; rw [if_neg (by omega), if_neg (by omega)]
        simp [go_sem, hc]
        refine ⟨by omega, i + 1, ⟨by omega, by omega, take_ext h1 h2 he hd⟩, by omega, Off_reset _ _ _ (by simp), by omega⟩
      · have hc := cmpI_ne hd
        simp [go_sem, hc]
        rw [cmpL_at h1 h2 he hd]
    · have h2' : b.length ≤ i := by omega
      have e : i = b.length := by omega
      simp [go_sem, h2']
      rw [cmpL_more h1 h2' (by rw [← e, he, e, List.take_length])]
  · simp [go_sem]
    have e : i = a.length := by omega
    subst e
    rw [List.take_length] at he
    rw [cmpL_end he]
    by_cases h3 : a.length < b.length
    · simp [go_sem, h3]
    · simp [go_sem, h3]
theorem degL_big {xs : List Int} {s : Int} (h : 3 < s) : ¬ degL xs s ≤ 3 := by
  intro hd
  have := degL_le (by omega : 0 ≤ s) hd
  have pos : ∀ (l : List Int), (∀ x ∈ l, 0 ≤ x ∧ x ≤ 3) → 0 ≤ l.sum := by
    intro l
    induction l with
    | nil => simp
    | cons a l ih => intro h; have h1 := h a (by simp); have h2 := ih (fun x hx => h x (by simp [hx])); simp; omega
  have := pos xs this.1
  omega
set_option maxRecDepth 100000 in
theorem isMonomial_c (z : Int) (m : Mon) (hl : m.2.length ≤ 1048576) : Con Tryz.prog 98 [.agg [.int m.1, .sl m.2.length (avs m.2)], .int z] (.bool (monB z m)) := by
  refine con_of_vc Tryz.mixed ⟨8, [], [], []⟩ Tryz.func98 (by decide) rfl (by simp) (by decide) (by simp [freshOK, freshL, go_sem]) ?_
  rw [Tryz.ntmps98]
  simp [go_sem]
  refine loop_inv (4 :: 5 :: 7 :: List.range' 11 11) (fun x : Nat × Int => [(5, .int x.2), (11, .int x.1)]) (fun x => x.1 ≤ m.2.length ∧ 0 ≤ x.2 ∧ x.2 ≤ 3 * x.1 ∧ degL (m.2.drop x.1) x.2 = degL m.2 0) (fun x => m.2.length - x.1) (0, 0) (by simp) (by simp [go_sem]) (by simp [go_sem]) ?_
  rintro ⟨i, s⟩ ⟨hi, hs0, hs1, he⟩
  simp only at hi hs0 hs1 he
  simp [go_sem]
  refine ⟨fun h => ?_, fun h => ?_⟩ <;> simp at h
  · have hd : m.2.drop i = m.2[i]?.getD 0 :: m.2.drop (i + 1) := by rw [List.drop_eq_getElem_cons h]; simp [h]
    simp [go_sem, avs_drop h]
    refine ⟨⟨h, fun e => by rw [e] at h; simp at h⟩, ?_⟩
    refine CallVC.of (inRange_c _ _ _) (by decide) ?_
    by_cases hx : 0 ≤ m.2[i]?.getD 0 ∧ m.2[i]?.getD 0 ≤ 3
    · simp [go_sem, hx.1, hx.2]
      rw [hd, degL, if_neg (by omega)] at he
      refine ⟨by omega, by omega, i + 1, _, ⟨by omega, by omega, by omega, he⟩, by omega, Off_reset _ _ _ (by simp), rfl, by omega⟩
    · have hx' : (decide (0 ≤ m.2[i]?.getD 0) && decide (m.2[i]?.getD 0 ≤ 3)) = false := by simpa using hx
      have hm : monB z m = false := by
        have : ¬ degL m.2 0 ≤ 3 := by
          rw [← he, hd, degL]
          split
          · omega
          · exact degL_big (by omega)
        unfold monB; rw [decide_eq_false this]; simp
      rw [hx']
      simp [go_sem]
      rw [hm]
  · simp [go_sem]
    rw [List.drop_eq_nil_of_le h, degL] at he
    subst he
    by_cases c0 : m.1 = 0
    · simp [go_sem, c0]
      unfold monB; simp [c0]
    · simp [go_sem, c0]
      refine CallVC.of (IsNumber_c _) (by decide) ?_
      simp [go_sem]
      by_cases c1 : 0 ≤ m.1 ∧ m.1 ≤ 10006
      · simp [go_sem, c1.1, c1.2]
        refine CallVC.of (length_c _ _ (by omega)) (by decide) ?_
        simp [go_sem]
        by_cases c2 : (m.2.length : Int) = z
        · simp [go_sem, c2]
          unfold monB
          have : 1 ≤ m.1 := by omega
          simp [this, c1.2, c2]
        · simp [go_sem, c2]
          unfold monB; simp [c2]
      · have c1' : (decide (0 ≤ m.1) && decide (m.1 ≤ 10006)) = false := by simpa using c1
        rw [c1']
        simp [go_sem]
        have : ¬ (1 ≤ m.1 ∧ m.1 ≤ 10006) := by omega
        unfold monB; rw [decide_eq_false this]; simp
theorem lengthP_c (n : Nat) (cs : List AV) (hn : n ≤ 9223372036854775807) : Con Tryz.prog 97 [.sl n cs] (.int n) := by
  refine con_of_vc Tryz.mixed ⟨3, [], [], []⟩ Tryz.func97 (by decide) rfl (by simp) (by decide) (by simp [freshOK, freshL, go_sem]) ?_
  rw [Tryz.ntmps97]
  simp [go_sem]
  try omega
set_option maxRecDepth 100000 in
theorem IsField_c (z : Int) (f : List (List Mon)) (hf : Small f) : Con Tryz.prog 38 [.agg [.int z, .sl f.length (prt f)]] (.bool (fieldB z f)) := by
  have fl := hf.1
  refine con_of_vc Tryz.mixed ⟨7, [], [], []⟩ Tryz.func38 (by decide) rfl (by simp) (by decide) (by simp [freshOK, freshL, go_sem]) ?_
  rw [Tryz.ntmps38]
  simp [go_sem]
  refine ⟨by kernel_rfl, ?_⟩
  refine CallD.of (inRange_c z 1 3) (by simp [roots, rootsL]) (by decide) ?_
  simp [go_sem]
  by_cases hz : 1 ≤ z ∧ z ≤ 3
  · have cl := lengthP_c f.length (prt f) (by omega)
    by_cases hl : (f.length : Int) = z
    · have fine : fieldB z f = f.all (partB z) := by unfold fieldB; simp [hz, hl]
      simp [go_sem, hz.1, hz.2]
      refine CallD.of (cl) (by simp [roots, rootsL]) (by decide) ?_
      simp [go_sem]
      simp [go_sem, hl]
      refine ⟨by kernel_rfl, ?_⟩
      simp [go_sem]
      refine loop_inv (2 :: 4 :: 5 :: 6 :: List.range' 22 34) (fun i : Nat => [(22, .int i)]) (fun i => i ≤ f.length ∧ ∀ p ∈ f.take i, partB z p = true) (fun i => f.length - i) 0 (by simp) (by simp [go_sem]) (by simp [go_sem]) ?_
      rintro i ⟨hi, hp⟩
      simp [go_sem]
      refine ⟨fun h => ?_, fun h => ?_⟩ <;> simp at h
      · have hif := h
        have hx : f[i]?.getD [] ∈ f := by simp [h]
        obtain ⟨hm1, hm2⟩ := hf.2 _ hx
        simp [go_sem, prt_drop hif]
        refine ⟨⟨hif, by rintro rfl; simp at hif⟩, ?_⟩
        generalize hP : f[i]?.getD [] = P at *
        refine loop_inv (2 :: 5 :: 6 :: List.range' 28 27) (fun j : Nat => [(28, .int j)]) (fun j => j ≤ P.length ∧ ∀ k, k < j → atB z P k = true) (fun j => P.length - j) 0 (by simp) (by simp [go_sem]) (by simp [go_sem]) ?_
        rintro j ⟨hj, hq⟩
        simp [go_sem]
        refine ⟨fun h => ?_, fun h => ?_⟩ <;> simp at h
        · have hy : P[j]?.getD (0, []) ∈ P := by simp [h]
          have hm := hm2 _ hy
          have hno : atB z P j = false → fieldB z f = false := fun hh => fieldB_no hif (by rw [hP]; exact partB_no h hh)
          simp [go_sem, mons_drop h]
          refine ⟨⟨h, by rintro rfl; simp at h⟩, by kernel_rfl, ?_⟩
          generalize hM : P[j]?.getD (0, []) = m at *
          have cM := isMonomial_c z m hm
          generalize hmb : monB z m = mb at *
          refine CallD.of (cM) (by simp [roots, rootsL]) (by decide) ?_
          simp [go_sem]
          cases mb with
          | false =>
            simp [go_sem]
            refine ⟨by kernel_rfl, ?_⟩
            simp [go_sem]
            rw [hno (by unfold atB; rw [hM, hmb]; rfl)]
          | true =>
            by_cases j0 : 0 < j
            · have hk : j - 1 < P.length := by omega
              have ek : (j : Int) - 1 = ((j - 1 : Nat) : Int) := by omega
              have hyk : P[j - 1]?.getD (0, []) ∈ P := by simp [hk]
              have hmk := hm2 _ hyk
              have cC := Compare_c (P[j - 1]?.getD (0, [])).2 m.2 (by omega) (by omega)
              have hat : atB z P j = ltL (P[j - 1]?.getD (0, [])).2 m.2 := by unfold atB; rw [hM, hmb, decide_eq_false (by omega : ¬ j = 0)]; simp
              have hlt := cmpL_lt (P[j - 1]?.getD (0, [])).2 m.2
              simp [go_sem, j0, ek, mons_drop hk]
              refine ⟨by omega, ⟨hk, by rintro rfl; simp at h⟩, ?_⟩
              generalize (P[j - 1]?.getD (0, [])).2 = pw0 at *
              generalize hc : cmpL pw0 m.2 = c at *
              refine CallD.of (cC) (by simp [roots, rootsL]) (by decide) ?_
              simp [go_sem]
              cases hL : ltL pw0 m.2 with
              | false =>
                rw [hL] at hlt hat
                have hc0 : 0 ≤ c := by simpa using hlt
                simp [go_sem, hc0]
                refine ⟨by kernel_rfl, ?_⟩
                simp [go_sem]
                rw [hno hat]
              | true =>
                rw [hL] at hlt hat
                have hc0 : ¬ 0 ≤ c := by simpa using hlt
                simp [go_sem, hc0]
                refine ⟨by kernel_rfl, ?_⟩
                simp [go_sem]
                refine ⟨by omega, j + 1, ⟨by omega, fun k hk2 => ?_⟩, by omega, Off_reset _ _ _ (by simp), by omega⟩
                by_cases e : k = j
                · rw [e]; exact hat
                · exact hq k (by omega)
            · simp [go_sem, j0]
              refine ⟨by kernel_rfl, ?_⟩
              simp [go_sem]
              have hat : atB z P j = true := by unfold atB; rw [hM, hmb, decide_eq_true (by omega : j = 0)]; rfl
              refine ⟨by omega, j + 1, ⟨by omega, fun k hk2 => ?_⟩, by omega, Off_reset _ _ _ (by simp), by omega⟩
              by_cases e : k = j
              · rw [e]; exact hat
              · exact hq k (by omega)
        · simp [go_sem]
          have hpb : partB z P = true := partB_yes (fun k hk => hq k (by omega))
          refine ⟨by omega, i + 1, ⟨by omega, take_all hif hp (by rw [← hP] at hpb; simpa [hif] using hpb)⟩, by omega, (Off.reset (by intro x hx; simp at hx ⊢; omega) (by simp) (by simp [go_sem, Off_reset])), by omega⟩
      · simp [go_sem]
        rw [List.take_of_length_le h] at hp
        rw [fine, List.all_eq_true.2 hp]
    · simp [go_sem, hz.1, hz.2]
      refine CallD.of (cl) (by simp [roots, rootsL]) (by decide) ?_
      simp [go_sem]
      simp [go_sem, hl]
      refine ⟨by kernel_rfl, ?_⟩
      simp [go_sem]
      unfold fieldB; simp [hl]
  · by_cases z1 : 1 ≤ z
    · have z3 : ¬ z ≤ 3 := fun h => hz ⟨z1, h⟩
      simp [go_sem, z1, z3]
      refine ⟨by kernel_rfl, ?_⟩
      simp [go_sem]
      unfold fieldB; rw [decide_eq_false hz]; simp
    · simp [go_sem, z1]
      refine ⟨by kernel_rfl, ?_⟩
      simp [go_sem]
      unfold fieldB; rw [decide_eq_false hz]; simp
end Go.Proofs.YtoeikpioonlmfaaGreat


namespace Go.Proofs.YtoeikpioonlmfaaGreat
open Go.Abs
set_option linter.unusedSectionVars false
set_option linter.unusedVariables false
set_option linter.unusedSimpArgs false
set_option maxHeartbeats 1000000
def keyOf (e : List Int) : Key := (e[0]?.getD 0, e[1]?.getD 0, e[2]?.getD 0)
def polG (c : Key → Option Int) : List Mon → Key → Option Int
  | [] => c
  | m :: p => polG (mset c (keyOf m.2) m.1) p
def polF (p : List Mon) : Key → Option Int := polG mzero p
theorem polG_app (c : Key → Option Int) (p q : List Mon) : polG c (p ++ q) = polG (polG c p) q := by
  induction p generalizing c with
  | nil => rfl
  | cons m p ih => exact ih _
theorem polF_take {p : List Mon} {i : Nat} (h : i < p.length) : polF (p.take (i + 1)) = mset (polF (p.take i)) (keyOf (p[i]?.getD (0, [])).2) (p[i]?.getD (0, [])).1 := by
  rw [List.take_add_one, List.getElem?_eq_getElem h, polF, polG_app]; rfl
set_option maxRecDepth 100000 in
theorem polynomialOf_c (p : List Mon) (hp : p.length ≤ 1048576) (hm : ∀ m ∈ p, m.2.length ≤ 3) :
    Con Tryz.prog 135 [.sl p.length (mons p)] (.mp (polF p)) := by
  refine con_of_vc Tryz.mixed ⟨7, [], [], []⟩ Tryz.func135 (by decide) rfl (by simp) (by decide) (by simp [freshOK, freshL, go_sem]) ?_
  rw [Tryz.ntmps135]
  simp [go_sem]
  refine loop_inv (3 :: 5 :: 6 :: List.range' 10 14) (fun i : Nat => [(3, .mp (polF (p.take i))), (10, .int i)]) (fun i => i ≤ p.length) (fun i => p.length - i) 0 (by simp) (by simp [go_sem, polF, polG]) (by simp [go_sem]) ?_
  intro i hi
  simp [go_sem]
  refine ⟨fun h => ?_, fun h => ?_⟩ <;> simp at h
  · have hif := h
    have hx : p[i]?.getD (0, []) ∈ p := by simp [h]
    have hl := hm _ hx
    have hv := polF_take h
    simp [go_sem, mons_drop hif]
    generalize p[i]?.getD (0, []) = m at *
    obtain ⟨x, e⟩ := m
    simp only at hl hv
    refine ⟨⟨hif, by rintro rfl; simp at hif⟩, by kernel_rfl, ⟨by omega, by omega⟩, ?_⟩
    refine ⟨by kernel_rfl, ?_⟩
    simp [go_sem]
    rcases e with _ | ⟨a, _ | ⟨b, _ | ⟨c, _ | ⟨d, e⟩⟩⟩⟩
    · simp [go_sem, avs]
      refine ⟨by omega, i + 1, by omega, by omega, Off_reset _ _ _ (by simp), hv.symm, by omega⟩
    · simp [go_sem, avs]
      refine ⟨by omega, i + 1, by omega, by omega, Off_reset _ _ _ (by simp), hv.symm, by omega⟩
    · simp [go_sem, avs]
      refine ⟨by omega, i + 1, by omega, by omega, Off_reset _ _ _ (by simp), hv.symm, by omega⟩
    · simp [go_sem, avs]
      refine ⟨by omega, i + 1, by omega, by omega, Off_reset _ _ _ (by simp), hv.symm, by omega⟩
    · simp at hl
  · simp [go_sem]
    rw [List.take_of_length_le h]
def pols (f : List (List Mon)) : List AV := f.map fun p => .mp (polF p)
def fpols (f : List (List Mon)) : List AV := f.map fun p => .fmp (polF p)
@[simp] theorem pols_len (f : List (List Mon)) : (pols f).length = f.length := by simp [pols]
@[simp] theorem fpols_len (f : List (List Mon)) : (fpols f).length = f.length := by simp [fpols]
@[simp] theorem fpols_ne {f : List (List Mon)} : (fpols f = []) = (f = []) := by cases f <;> simp [fpols]
@[simp] theorem pols_frz : ∀ f : List (List Mon), frzL (pols f) = fpols f
  | [] => rfl
  | p :: f => by have := pols_frz f; simp only [pols, fpols, List.map_cons, frzL] at this ⊢; rw [this]; simp [frz]
@[simp] theorem pols_fresh : ∀ f : List (List Mon), freshL (pols f) = true
  | [] => rfl
  | p :: f => by have := pols_fresh f; simp only [pols, List.map_cons, freshL] at this ⊢; rw [this]; simp [freshOK]
theorem fpols_drop {f : List (List Mon)} {k : Nat} (h : k < f.length) : (fpols f).drop k = .fmp (polF (f[k]?.getD [])) :: fpols (f.drop (k + 1)) := by
  rw [fpols, ← List.map_drop, List.drop_eq_getElem_cons h, List.map_cons]; simp [h, fpols]
theorem polynomials_c (z : Int) (f : List (List Mon)) (hf : FieldOk z f) (hs : Small f) :
    Con Tryz.prog 61 [.agg [.int z, .sl f.length (prt f)]] (.own 87 f.length (pols f)) := by
  have fl := hs.1
  have z3 := hf.hi
  have zl := hf.len
  refine con_of_vc Tryz.mixed ⟨6, [], [], []⟩ Tryz.func61 (by decide) rfl (by simp) (by decide) (by simp [freshOK, freshL, go_sem]) ?_
  rw [Tryz.ntmps61]
  simp [go_sem]
  refine loop_inv (3 :: 5 :: List.range' 10 10) (fun i : Nat => [(3, .own 87 i (pols (f.take i))), (10, .int i)]) (fun i => i ≤ f.length) (fun i => f.length - i) 0 (by simp) (by simp [go_sem, pols]) (by simp [go_sem]) ?_
  intro i hi
  simp [go_sem]
  refine ⟨fun h => ?_, fun h => ?_⟩ <;> simp at h
  · have hif := h
    have hx : f[i]?.getD [] ∈ f := by simp [h]
    have hm := hs.2 _ hx
    simp [go_sem, prt_drop hif]
    refine ⟨⟨hif, by rintro rfl; simp at hif⟩, ?_⟩
    refine CallVC.of (polynomialOf_c _ hm.1 (fun m hm => by have := (partB_mem (hf.part _ hx) hm).len; omega)) (by decide) ?_
    simp [go_sem]
    have e1 : f.take (i + 1) = f.take i ++ [f[i]?.getD []] := by rw [List.take_add_one]; simp [hif]
    refine ⟨⟨by omega, by omega, by omega⟩, by omega, i + 1, by omega, by omega, Off_reset _ _ _ (by simp), ⟨rfl, ?_⟩, by omega⟩
    rw [e1]; simp [pols]
  · simp [go_sem]
    rw [List.take_of_length_le h]
    exact ⟨by omega, rfl⟩
def EOk (e : Key × Int) : Prop := isN e.2 ∧ 0 ≤ e.1.1 ∧ e.1.1 ≤ 1000 ∧ 0 ≤ e.1.2.1 ∧ e.1.2.1 ≤ 1000 ∧ 0 ≤ e.1.2.2 ∧ e.1.2.2 ≤ 1000
end Go.Proofs.YtoeikpioonlmfaaGreat


namespace Go.Proofs.YtoeikpioonlmfaaGreat
open Go.Abs
set_option linter.unusedSectionVars false
set_option linter.unusedVariables false
set_option linter.unusedSimpArgs false
set_option maxHeartbeats 1000000
theorem ltL_irr : ∀ a : List Int, ltL a a = false
  | [] => rfl
  | x :: a => by simp [ltL, ltL_irr a]
theorem ltL_trans : ∀ {a b c : List Int}, ltL a b = true → ltL b c = true → ltL a c = true
  | _, [], _, h, _ => by simp [ltL] at h
  | _, _ :: _, [], _, h => by simp [ltL] at h
  | [], _ :: _, _ :: _, _, _ => rfl
  | x :: a, y :: b, z :: c, h1, h2 => by
    simp only [ltL] at h1 h2 ⊢
    split at h1
    · rename_i e; subst e
      split at h2
      · rename_i e; subst e; rw [if_pos rfl]; exact ltL_trans h1 h2
      · rename_i e; rw [if_neg e]; exact h2
    · rename_i e1
      simp only [decide_eq_true_eq] at h1
      split at h2
      · rename_i e; subst e; rw [if_neg e1]; simpa using h1
      · rename_i e
        simp only [decide_eq_true_eq] at h2
        rw [if_neg (by omega)]; simp; omega
theorem chain_lt {z : Int} {p : List Mon} (h : partB z p = true) {i : Nat} : ∀ {j : Nat}, i < j → j < p.length → ltL (p[i]?.getD (0, [])).2 (p[j]?.getD (0, [])).2 = true
  | 0, h1, _ => by omega
  | j + 1, h1, h2 => by
    have hs := (partB_at h h2).2 (by omega)
    rw [Nat.add_sub_cancel] at hs
    rcases Nat.lt_or_ge i j with hl | hg
    · exact ltL_trans (chain_lt h hl (by omega)) hs
    · have : i = j := by omega
      subst this; exact hs
theorem keyOf_inj {a b : List Int} (hl : a.length = b.length) (h3 : a.length ≤ 3) (h : keyOf a = keyOf b) : a = b := by
  match a, b, hl, h3 with
  | [], [], _, _ => rfl
  | [x], [y], _, _ => simp [keyOf] at h; rw [h]
  | [x, x'], [y, y'], _, _ => simp [keyOf] at h; rw [h.1, h.2]
  | [x, x', x''], [y, y', y''], _, _ => simp [keyOf] at h; rw [h.1, h.2.1, h.2.2]
def keyM (m : Mon) : Key × Int := (keyOf m.2, m.1)
theorem keys_nd {z : Int} {p : List Mon} (hz : z ≤ 3) (h : partB z p = true) : p.Pairwise (fun a b => keyOf a.2 ≠ keyOf b.2) := by
  rw [List.pairwise_iff_getElem]
  intro i j hi hj hij he
  have hl := chain_lt h hij hj
  have m1 := (partB_at h hi).1.len
  have m2 := (partB_at h hj).1.len
  simp only [List.getElem?_eq_getElem hi, List.getElem?_eq_getElem hj, Option.getD_some] at hl m1 m2
  have := keyOf_inj (by omega) (by omega) he
  rw [this, ltL_irr] at hl
  simp at hl
theorem polG_out : ∀ (p : List Mon) (c : Key → Option Int) (k : Key), (∀ m ∈ p, keyOf m.2 ≠ k) → polG c p k = c k
  | [], c, k, _ => rfl
  | m :: p, c, k, h => by
    rw [polG, polG_out p _ k (fun a ha => h a (by simp [ha]))]
    have := h m (by simp)
    simp [mset, Ne.symm this]
theorem polG_in : ∀ (p : List Mon) (c : Key → Option Int), p.Pairwise (fun a b => keyOf a.2 ≠ keyOf b.2) → ∀ m ∈ p, polG c p (keyOf m.2) = some m.1
  | [], _, _, m, hm => by simp at hm
  | a :: p, c, h, m, hm => by
    obtain ⟨h1, h2⟩ := List.pairwise_cons.1 h
    rw [polG]
    rcases List.mem_cons.1 hm with rfl | hm
    · rw [polG_out p _ _ (fun b hb => Ne.symm (h1 b hb))]; simp [mset]
    · exact polG_in p _ h2 m hm
theorem polF_some {p : List Mon} (h : p.Pairwise (fun a b => keyOf a.2 ≠ keyOf b.2)) {k : Key} {x : Int} : polF p k = some x ↔ (k, x) ∈ p.map keyM := by
  constructor
  · intro hk
    by_cases hin : ∃ m ∈ p, keyOf m.2 = k
    · obtain ⟨m, hm, rfl⟩ := hin
      rw [polF, polG_in p _ h m hm] at hk
      injection hk with hk; subst hk
      exact List.mem_map.2 ⟨m, hm, rfl⟩
    · rw [polF, polG_out p _ k (fun m hm he => hin ⟨m, hm, he⟩)] at hk
      simp [mzero] at hk
  · intro hm
    obtain ⟨m, hm, he⟩ := List.mem_map.1 hm
    simp only [keyM, Prod.mk.injEq] at he
    rw [← he.1, ← he.2]
    exact polG_in p _ h m hm
theorem nodup_of_key {α β : Type} {f : α → β} {l : List α} (h : l.Pairwise (fun a b => f a ≠ f b)) : l.Nodup := h.imp (fun hn e => hn (by rw [e]))
end Go.Proofs.YtoeikpioonlmfaaGreat


namespace Go.Proofs.YtoeikpioonlmfaaGreat
open Go.Abs
set_option linter.unusedSectionVars false
set_option linter.unusedVariables false
set_option linter.unusedSimpArgs false
set_option maxHeartbeats 1000000
theorem enum_mem {c : Key → Option Int} {es : List (Key × Int)} (he : Enum c es) {k : Key} {x : Int} : (k, x) ∈ es ↔ c k = some x := by
  constructor
  · intro hm; exact he.val _ hm
  · intro hk
    by_cases hin : ∃ q ∈ es, q.1 = k
    · obtain ⟨⟨k', x'⟩, hq, hqk⟩ := hin
      simp only at hqk; subst hqk
      have := he.val _ hq
      simp only at this
      rw [hk] at this
      injection this with this; subst this
      exact hq
    · have := he.out k (fun q hq e => hin ⟨q, hq, e⟩)
      rw [hk] at this; simp at this
theorem enum_unique {c : Key → Option Int} {a b : List (Key × Int)} (ha : Enum c a) (hb : Enum c b) : a.Perm b :=
  (List.perm_ext_iff_of_nodup (nodup_of_key (f := Prod.fst) ha.nd) (nodup_of_key (f := Prod.fst) hb.nd)).2 (fun e => by
    obtain ⟨k, x⟩ := e
    rw [enum_mem ha, enum_mem hb])
def KOk (n : Nat) (k : Key) : Prop := k ∈ box ∧ ∀ i, n ≤ i → i < 3 → at3 i k = 0
theorem coef_enum {c : Key → Option Int} {es : List (Key × Int)} (he : Enum c es) (k : Key) : coef Prod.fst Prod.snd es k = (c k).getD 0 := by
  have gen : ∀ (l : List (Key × Int)), l.Pairwise (fun a b => a.1 ≠ b.1) → ∀ x, (k, x) ∈ l → coef Prod.fst Prod.snd l k = x := by
    intro l
    induction l with
    | nil => intro _ x hx; simp at hx
    | cons a l ih =>
      intro hp x hx
      obtain ⟨h1, h2⟩ := List.pairwise_cons.1 hp
      unfold coef at ih ⊢
      simp only [sumI]
      rcases List.mem_cons.1 hx with rfl | hx
      · rw [if_pos rfl, sumI_zero (fun b hb => if_neg (h1 b hb))]; simp
      · rw [if_neg (fun e => h1 _ hx e.symm), ih h2 x hx]; simp
  cases hc : c k with
  | some x => exact gen es he.nd x ((enum_mem he).2 hc)
  | none =>
    unfold coef
    refine sumI_zero (fun e hm => if_neg (fun e1 => ?_))
    have := he.val e hm
    rw [← e1, hc] at this
    simp at this
def gv (c : Key → Option Int) (k : Key) : Int := (c k).getD 0
end Go.Proofs.YtoeikpioonlmfaaGreat


namespace Go.Proofs.YtoeikpioonlmfaaGreat
open Go.Abs
set_option linter.unusedSectionVars false
set_option linter.unusedVariables false
set_option linter.unusedSimpArgs false
set_option maxHeartbeats 1000000
theorem KOk.eok {n : Nat} {k : Key} {x : Int} (h : KOk n k) (hx : isN x) : EOk (k, x) := by
  have := mem_box.1 h.1
  show isN x ∧ 0 ≤ k.1 ∧ k.1 ≤ 1000 ∧ 0 ≤ k.2.1 ∧ k.2.1 ≤ 1000 ∧ 0 ≤ k.2.2 ∧ k.2.2 ≤ 1000
  exact ⟨hx, by omega, by omega, by omega, by omega, by omega, by omega⟩
structure VOk (n : Nat) (m : Mon) : Prop where
  num : isN m.1
  len : m.2.length = n
  pw : ∀ x ∈ m.2, 0 ≤ x ∧ x ≤ 3
theorem MonOk.vok {n : Nat} {m : Mon} (h : MonOk (n : Int) m) : VOk n m := ⟨⟨by have := h.lo; omega, by have := h.hi; omega⟩, by have := h.len; omega, h.pw⟩
def cfL (L : List Mon) : Key → Int := coef (fun m : Mon => keyOf m.2) (fun m => m.1) L
def putGo (c : Int) (e : List Int) : List Mon → Bool → List Mon
  | [], done => if done then [] else [(c, e)]
  | m :: l, done =>
    if done = false ∧ m.2 = e then (if (m.1 + c) % 10007 = 0 then [] else [((m.1 + c) % 10007, m.2)]) ++ putGo c e l true
    else if done = false ∧ ltL e m.2 = true then (c, e) :: ((if m.1 = 0 then [] else [m]) ++ putGo c e l true)
    else (if m.1 = 0 then [] else [m]) ++ putGo c e l done
def putL (L : List Mon) (c : Int) (e : List Int) : List Mon := putGo c e L (decide (c = 0))
theorem cfL_app (a b : List Mon) (k : Key) : cfL (a ++ b) k = cfL a k + cfL b k := sumI_app _ a b
theorem cfL_cons (m : Mon) (b : List Mon) (k : Key) : cfL (m :: b) k = (if k = keyOf m.2 then m.1 else 0) + cfL b k := rfl
theorem cfL_if (m : Mon) (k : Key) : cfL (if m.1 = 0 then [] else [m]) k = if k = keyOf m.2 then m.1 else 0 := by
  split
  · rename_i h; simp [cfL, coef, sumI, h]
  · simp [cfL, coef, sumI]
theorem putGo_cf (c : Int) (e : List Int) (k : Key) : ∀ (l : List Mon) (done : Bool), cfL (putGo c e l done) k % 10007 = (cfL l k + if done = true then 0 else if k = keyOf e then c else 0) % 10007
  | [], true => by simp [putGo, cfL, coef, sumI]
  | [], false => by simp [putGo, cfL, coef, sumI]
  | m :: l, done => by
    rw [putGo, cfL_cons]
    by_cases h1 : done = false ∧ m.2 = e
    · rw [if_pos h1, cfL_app, h1.1, ← h1.2]
      have := cfL_if ((m.1 + c) % 10007, m.2) k
      simp only at this
      rw [this, Int.add_emod, putGo_cf c m.2 k l true]
      by_cases hk : k = keyOf m.2
      · simp [hk]; omega
      · simp [hk]
    · rw [if_neg h1]
      by_cases h2 : done = false ∧ ltL e m.2 = true
      · rw [if_pos h2, cfL_cons, cfL_app, cfL_if, h2.1]
        have := putGo_cf c e k l true
        simp only [if_true, Int.add_zero] at this
        simp only [Bool.false_eq_true, if_false]
        generalize (if k = keyOf e then c else 0) = B
        generalize (if k = keyOf m.2 then m.1 else 0) = A
        omega
      · rw [if_neg h2, cfL_app, cfL_if]
        have := putGo_cf c e k l done
        omega
theorem putL_cf (L : List Mon) (c : Int) (e : List Int) (k : Key) : cfL (putL L c e) k % 10007 = (cfL L k + if k = keyOf e then c else 0) % 10007 := by
  unfold putL
  rw [putGo_cf]
  by_cases h : c = 0 <;> simp [h]
end Go.Proofs.YtoeikpioonlmfaaGreat


namespace Go.Proofs.YtoeikpioonlmfaaGreat
open Go.Abs
set_option linter.unusedSectionVars false
set_option linter.unusedVariables false
set_option linter.unusedSimpArgs false
set_option maxHeartbeats 1000000
def addM (o q : Key → Option Int) (x : Int) (k : Key) : Option Int := match q k with
  | some a => some (((o k).getD 0 + x % 10007 * a) % 10007)
  | none => o k
theorem addM_gv (o q : Key → Option Int) (x : Int) (k : Key) : gv (addM o q x) k % 10007 = (gv o k + x * gv q k) % 10007 := by
  unfold gv addM
  cases q k with
  | none => simp
  | some a =>
    simp only [Option.getD_some]
    rw [Int.emod_emod_of_dvd _ (Int.dvd_refl _), Int.add_emod, mod_mul_l, ← Int.add_emod]
theorem at3_keyOf {e : List Int} {i : Nat} (h3 : i < 3) : at3 i (keyOf e) = e[i]?.getD 0 := by
  have : i = 0 ∨ i = 1 ∨ i = 2 := by omega
  rcases this with rfl | rfl | rfl <;> rfl
end Go.Proofs.YtoeikpioonlmfaaGreat


namespace Go.Proofs.YtoeikpioonlmfaaGreat
open Go.Abs
set_option linter.unusedSectionVars false
set_option linter.unusedVariables false
set_option linter.unusedSimpArgs false
set_option maxHeartbeats 1000000
def hasK (rem : List (Key × Int)) (k : Key) : Bool := rem.any fun e => decide (e.1 = k)
theorem hasK_iff {rem : List (Key × Int)} {k : Key} : hasK rem k = true ↔ ∃ e ∈ rem, e.1 = k := by simp [hasK]
theorem hasK_mid (l1 l2 : List (Key × Int)) (k0 : Key) (x : Int) (k : Key) : hasK (l1 ++ (k0, x) :: l2) k = (decide (k0 = k) || hasK (l1 ++ l2) k) := by
  simp only [hasK, List.any_append, List.any_cons]
  cases List.any l1 (fun e => decide (e.1 = k)) <;> cases decide (k0 = k) <;> simp
theorem hasK_not {l1 l2 : List (Key × Int)} {k0 : Key} {x : Int} (h : (l1 ++ (k0, x) :: l2).Pairwise (fun a b => a.1 ≠ b.1)) : hasK (l1 ++ l2) k0 = false := by
  cases hb : hasK (l1 ++ l2) k0 with
  | false => rfl
  | true =>
    obtain ⟨e, he, hk⟩ := hasK_iff.1 hb
    obtain ⟨h1, h2, h3⟩ := List.pairwise_append.1 h
    rcases List.mem_append.1 he with he | he
    · exact (h3 e he (k0, x) (by simp) hk).elim
    · exact ((List.pairwise_cons.1 h2).1 e he hk.symm).elim
def remA (o q : Key → Option Int) (x : Int) (rem : List (Key × Int)) (k : Key) : Option Int := if hasK rem k = true then o k else addM o q x k
theorem remA_start {o q : Key → Option Int} {x : Int} {es : List (Key × Int)} (he : Enum q es) : remA o q x es = o := by
  funext k
  unfold remA
  split
  · rfl
  · rename_i h
    have : q k = none := he.out _ (fun p hp e => h (hasK_iff.2 ⟨p, hp, e⟩))
    simp [addM, this]
theorem remA_end (o q : Key → Option Int) (x : Int) : remA o q x [] = addM o q x := by
  funext k; simp [remA, hasK]
theorem remA_at {o q : Key → Option Int} {x : Int} {l1 l2 : List (Key × Int)} {k0 : Key} {a : Int} : remA o q x (l1 ++ (k0, a) :: l2) k0 = o k0 := by
  unfold remA
  rw [hasK_mid]
  simp
theorem remA_step {o q : Key → Option Int} {x : Int} {l1 l2 : List (Key × Int)} {k0 : Key} {a : Int} (h : (l1 ++ (k0, a) :: l2).Pairwise (fun a b => a.1 ≠ b.1)) (hc : q k0 = some a) :
    mset (remA o q x (l1 ++ (k0, a) :: l2)) k0 (((o k0).getD 0 + x % 10007 * a) % 10007) = remA o q x (l1 ++ l2) := by
  funext k
  unfold mset
  by_cases hk : k = k0
  · subst hk
    rw [if_pos rfl]
    unfold remA
    rw [hasK_not h]
    simp [addM, hc]
  · rw [if_neg hk]
    unfold remA
    rw [hasK_mid]
    have : ¬ k0 = k := fun e => hk e.symm
    simp [this]
end Go.Proofs.YtoeikpioonlmfaaGreat


namespace Go.Proofs.YtoeikpioonlmfaaGreat
open Go.Abs
set_option linter.unusedSectionVars false
set_option linter.unusedVariables false
set_option linter.unusedSimpArgs false
set_option maxHeartbeats 1000000
theorem VOk.low {n i : Nat} {m : Mon} (h : VOk n m) (hi : i < n) (hp : 0 < m.2[i]?.getD 0) : VOk n (m.1 * m.2[i]?.getD 0 % 10007, m.2.set i (m.2[i]?.getD 0 - 1)) := by
  have hl := h.len
  refine ⟨isN_mod _, by simpa using hl, fun x hx => ?_⟩
  rcases List.mem_or_eq_of_mem_set hx with hx | rfl
  · exact h.pw x hx
  · have hm : m.2[i]?.getD 0 ∈ m.2 := by
      rw [List.getElem?_eq_getElem (by omega), Option.getD_some]; exact List.getElem_mem _
    have := h.pw _ hm
    omega
theorem sumI_map {α β : Type} (g : α → β) (f : β → Int) : ∀ l : List α, sumI f (l.map g) = sumI (fun a => f (g a)) l
  | [] => rfl
  | a :: l => by rw [List.map_cons, sumI, sumI, sumI_map g f l]
theorem polF_enum {p : List Mon} (h : p.Pairwise (fun a b => keyOf a.2 ≠ keyOf b.2)) : Enum (polF p) (p.map keyM) := by
  refine ⟨?_, fun e he => ?_, fun k hk => ?_⟩
  · rw [List.pairwise_map]; exact h
  · obtain ⟨k, x⟩ := e
    exact (polF_some h).2 he
  · cases hc : polF p k with
    | none => rfl
    | some x => exact (hk _ ((polF_some h).1 hc) rfl).elim
theorem polF_gv {p : List Mon} (h : p.Pairwise (fun a b => keyOf a.2 ≠ keyOf b.2)) (k : Key) : gv (polF p) k = cfL p k := by
  unfold gv
  rw [← coef_enum (polF_enum h) k]
  unfold coef cfL coef
  rw [sumI_map]
  rfl
end Go.Proofs.YtoeikpioonlmfaaGreat


namespace Go.Proofs.YtoeikpioonlmfaaGreat
open Go.Abs
set_option linter.unusedSectionVars false
set_option linter.unusedVariables false
set_option linter.unusedSimpArgs false
set_option maxHeartbeats 1000000
def NN (k : Key) : Prop := 0 ≤ k.1 ∧ 0 ≤ k.2.1 ∧ 0 ≤ k.2.2
def Eqv (C D : Key → Int) : Prop := ∀ k, NN k → C k % 10007 = D k % 10007
theorem NN.box {k : Key} (h : k ∈ box) : NN k := by have := mem_box.1 h; exact ⟨by omega, by omega, by omega⟩
theorem NN.at3 {k : Key} (h : NN k) (i : Nat) : 0 ≤ at3 i k := by
  obtain ⟨a, b, c⟩ := h
  unfold Go.Proofs.YtoeikpioonlmfaaGreat.at3
  split
  · omega
  · split <;> omega
theorem Eqv.refl (C : Key → Int) : Eqv C C := fun _ _ => rfl
theorem Eqv.symm {C D : Key → Int} (h : Eqv C D) : Eqv D C := fun k hk => (h k hk).symm
theorem Eqv.trans {C D E : Key → Int} (h : Eqv C D) (h2 : Eqv D E) : Eqv C E := fun k hk => (h k hk).trans (h2 k hk)
theorem mod_mul {a b : Int} (c : Int) (h : a % 10007 = b % 10007) : c * a % 10007 = c * b % 10007 := by rw [Int.mul_emod, h, ← Int.mul_emod]
end Go.Proofs.YtoeikpioonlmfaaGreat


namespace Go.Proofs.YtoeikpioonlmfaaGreat
open Go.Abs
set_option linter.unusedSectionVars false
set_option linter.unusedVariables false
set_option linter.unusedSimpArgs false
set_option maxHeartbeats 1000000
def tb (f : Nat → Int) (k : Nat) : List Int := (List.range k).map f
@[simp] theorem tb_len (f : Nat → Int) (k : Nat) : (tb f k).length = k := by simp [tb]
@[simp] theorem tb_zero (f : Nat → Int) : tb f 0 = [] := rfl
theorem tb_succ (f : Nat → Int) (k : Nat) : tb f (k + 1) = tb f k ++ [f k] := by simp [tb, List.range_succ]
theorem tb_get (f : Nat → Int) {k i : Nat} (h : i < k) : (tb f k)[i]?.getD 0 = f i := by simp [tb, h]
theorem tb_N {f : Nat → Int} {k : Nat} (h : ∀ i, i < k → isN (f i)) : Ns (tb f k) := by
  intro x hx
  simp [tb] at hx
  obtain ⟨i, hi, rfl⟩ := hx
  exact h i hi
theorem avs_at {xs : List Int} {k : Nat} (h : k < xs.length) : (avs xs)[k]? = some (AV.val (.int .i64 (xs[k]?.getD 0))) := by simp [avs, h]
def es (b o : List Int) (n : Nat) : Nat → Int
  | 0 => 0
  | m + 1 => es b o n m + (m + 1) * (b[m + 1]?.getD 0 * o[n - (m + 1)]?.getD 0 % 10007)
end Go.Proofs.YtoeikpioonlmfaaGreat


namespace Go.Proofs.YtoeikpioonlmfaaGreat
open Go.Abs
set_option linter.unusedSectionVars false
set_option linter.unusedVariables false
set_option linter.unusedSimpArgs false
set_option maxHeartbeats 1000000
end Go.Proofs.YtoeikpioonlmfaaGreat


namespace Go.Proofs.YtoeikpioonlmfaaGreat
open Go.Abs
set_option linter.unusedSectionVars false
set_option linter.unusedVariables false
set_option linter.unusedSimpArgs false
set_option maxHeartbeats 1000000
theorem l01Own_c (xs : List Int) (hl : xs.length ≤ 17592186044416) : Con Tryz.prog 134 [.sl xs.length (avs xs)] (.own 2 xs.length (avs xs)) := by
  refine con_of_vc Tryz.mixed ⟨3, [], [], []⟩ Tryz.func134 (by decide) rfl (by simp) (by decide) (by simp [freshOK, freshL, go_sem]) ?_
  rw [Tryz.ntmps134]
  simp [go_sem]
  try omega
theorem l01Same_c (a b : List Int) (ha : a.length ≤ 9223372036854775807) : Con Tryz.prog 195 [.sl a.length (avs a), .sl b.length (avs b)] (.bool (decide (a = b))) := by
  refine con_of_vc Tryz.mixed ⟨6, [], [], []⟩ Tryz.func195 (by decide) rfl (by simp) (by decide) (by simp [freshOK, freshL, go_sem]) ?_
  rw [Tryz.ntmps195]
  simp [go_sem]
  refine ⟨fun h => ?_, fun h => ?_⟩ <;> simp at h <;> simp [go_sem]
  · rintro rfl; omega
  have hl : a.length = b.length := by omega
  refine loop_inv (4 :: 5 :: List.range' 11 16) (fun i : Nat => [(5, .int i)]) (fun i => i ≤ a.length ∧ a.take i = b.take i) (fun i => a.length - i) 0 (by simp) (by simp [go_sem]) (by simp [go_sem]) ?_
  intro i hi
  simp [go_sem]
  refine ⟨fun h => ?_, fun h => ?_⟩ <;> simp at h
  · have h2 : i < b.length := by omega
    simp [go_sem, avs_drop h, avs_drop h2]
    refine ⟨by kernel_rfl, ⟨h, by rintro rfl; simp at h⟩, ⟨h2, by rintro rfl; simp at h2⟩, ?_⟩
    refine ⟨by kernel_rfl, ?_⟩
    simp [go_sem]
    refine ⟨fun h3 => ?_, fun h3 => ?_⟩ <;> simp at h3 <;> simp [go_sem]
    · rintro rfl; exact h3 rfl
    · refine ⟨by omega, i + 1, ⟨by omega, ?_⟩, by omega, Off_reset _ _ _ (by simp), by omega⟩
      rw [List.take_add_one, List.take_add_one, hi.2]
      rw [List.getElem?_eq_getElem h, List.getElem?_eq_getElem h2] at h3 ⊢
      simp only [Option.getD_some] at h3
      rw [h3]
  · simp [go_sem]
    have e : i = a.length := by omega
    subst e
    have := hi.2
    rw [List.take_length, hl, List.take_length] at this
    exact this
theorem omons_one (m : Mon) : omons [m] = [.int m.1, .own 2 m.2.length (avs m.2)] := rfl
theorem putGo_t (c : Int) (e : List Int) (m : Mon) (l : List Mon) : putGo c e (m :: l) true = (if m.1 = 0 then [] else [m]) ++ putGo c e l true := by
  rw [putGo, if_neg (by simp), if_neg (by simp)]
theorem putGo_e (c : Int) (m : Mon) (l : List Mon) : putGo c m.2 (m :: l) false = (if (m.1 + c) % 10007 = 0 then [] else [((m.1 + c) % 10007, m.2)]) ++ putGo c m.2 l true := by
  rw [putGo, if_pos (by simp)]
theorem putGo_l {c : Int} {e : List Int} {m : Mon} (l : List Mon) (h : ¬ m.2 = e) (h2 : ltL e m.2 = true) : putGo c e (m :: l) false = (c, e) :: ((if m.1 = 0 then [] else [m]) ++ putGo c e l true) := by
  rw [putGo, if_neg (by simp [h]), if_pos (by simp [h2])]
theorem putGo_g {c : Int} {e : List Int} {m : Mon} (l : List Mon) (h : ¬ m.2 = e) (h2 : ltL e m.2 = false) : putGo c e (m :: l) false = (if m.1 = 0 then [] else [m]) ++ putGo c e l false := by
  rw [putGo, if_neg (by simp [h]), if_neg (by simp [h2])]
set_option maxRecDepth 100000 in
theorem l13Put_c (L : List Mon) (c : Int) (e : List Int) (hc : isN c) (hL : ∀ m ∈ L, isN m.1 ∧ m.2.length ≤ 1048576) (hl : L.length ≤ 1000000000000) (he : e.length ≤ 1048576) :
    Con Tryz.prog 137 [.sl L.length (mons L), .int c, .sl e.length (avs e)] (.own 97 (putL L c e).length (omons (putL L c e))) := by
  refine con_of_vc Tryz.mixed ⟨11, [], [], []⟩ Tryz.func137 (by decide) rfl (by simp) (by decide) (by simp [freshOK, freshL, go_sem]) ?_
  rw [Tryz.ntmps137]
  simp [go_sem]
  refine loop_inv (List.range' 7 61) (fun x : Nat × Bool × List Mon => [(7, .own 97 x.2.2.length (omons x.2.2)), (8, .bool x.2.1), (9, .int x.1)]) (fun x => x.1 ≤ L.length ∧ x.2.2.length ≤ x.1 + (if x.2.1 = true then 1 else 0) ∧ x.2.2 ++ putGo c e (L.drop x.1) x.2.1 = putL L c e) (fun x => L.length - x.1) (0, decide (c = 0), []) ⟨by simp, by simp, by simp [putL]⟩ (by simp [go_sem]) (by simp [go_sem]) ?_
  rintro ⟨i, done, O⟩ ⟨hi, hO, he2⟩
  simp only at hi hO he2
  simp [go_sem]
  refine ⟨fun h => ?_, fun h => ?_⟩ <;> simp at h
  · have hif := h
    have hx : L[i]?.getD (0, []) ∈ L := by simp [h]
    have hd : L.drop i = L[i]?.getD (0, []) :: L.drop (i + 1) := by rw [List.drop_eq_getElem_cons h]; simp [h]
    obtain ⟨hm1, hm2⟩ := hL _ hx
    simp [go_sem, mons_drop hif]
    generalize hM : L[i]?.getD (0, []) = m at *
    refine ⟨by kernel_rfl, ⟨hif, by rintro rfl; simp at hif⟩, ?_⟩
    refine CallD.of (l01Own_c m.2 (by omega)) (by simp [roots, rootsL]) (by decide) ?_
    simp [go_sem]
    refine ⟨by kernel_rfl, ?_⟩
    simp [go_sem]
    rw [hd] at he2
    cases done with
    | true =>
      rw [putGo_t] at he2
      simp only [if_true] at hO
      simp [go_sem]
      by_cases h0 : m.1 = 0
      · simp [go_sem, h0]
        rw [if_pos h0] at he2
        exact ⟨by omega, i + 1, O, ⟨by omega, by omega, he2⟩, by omega, Off_reset _ _ _ (by simp), ⟨rfl, rfl⟩, by omega⟩
      · simp [go_sem, h0]
        rw [if_neg h0] at he2
        exact ⟨⟨by omega, by omega⟩, by omega, i + 1, O ++ [m], ⟨by omega, by simp; omega, by simpa using he2⟩, by omega, Off_reset _ _ _ (by simp), ⟨by simp, by simp [omons_app, omons_one]⟩, by omega⟩
    | false =>
      simp only [Bool.false_eq_true, if_false] at hO
      by_cases hme : m.2 = e
      · subst hme
        rw [putGo_e] at he2
        simp [go_sem]
        refine CallVC.of (l01Same_c m.2 m.2 (by omega)) (by decide) ?_
        simp [go_sem]
        refine CallVC.of (l01Add_c _ _ (add_fits hm1 hc)) (by decide) ?_
        simp [go_sem]
        by_cases h0 : (m.1 + c) % 10007 = 0
        · simp [go_sem, h0]
          rw [if_pos h0] at he2
          exact ⟨by omega, i + 1, O, ⟨by omega, by omega, he2⟩, by omega, Off_reset _ _ _ (by simp), ⟨rfl, rfl⟩, by omega⟩
        · simp [go_sem, h0]
          rw [if_neg h0] at he2
          exact ⟨⟨by omega, by omega⟩, by omega, i + 1, O ++ [((m.1 + c) % 10007, m.2)], ⟨by omega, by simp; omega, by simpa using he2⟩, by omega, Off_reset _ _ _ (by simp), ⟨by simp, by simp [omons_app, omons_one]⟩, by omega⟩
      · simp [go_sem]
        refine CallVC.of (l01Same_c m.2 e (by omega)) (by decide) ?_
        simp [go_sem]
        simp [go_sem, hme]
        refine CallVC.of (l01Less_c e m.2 (by omega) (by omega)) (by decide) ?_
        simp [go_sem]
        cases hlt : ltL e m.2 with
        | true =>
          rw [putGo_l _ hme hlt] at he2
          simp [go_sem]
          refine CallVC.of (l01Own_c e (by omega)) (by decide) ?_
          simp [go_sem]
          by_cases h0 : m.1 = 0
          · simp [go_sem, h0]
            rw [if_pos h0] at he2
            exact ⟨⟨by omega, by omega⟩, by omega, i + 1, O ++ [(c, e)], ⟨by omega, by simp; omega, by simpa using he2⟩, by omega, Off_reset _ _ _ (by simp), ⟨by simp, by simp [omons_app, omons_one]⟩, by omega⟩
          · simp [go_sem, h0]
            rw [if_neg h0] at he2
            exact ⟨⟨by omega, by omega⟩, ⟨by omega, by omega, by omega⟩, by omega, i + 1, O ++ [(c, e), m], ⟨by omega, by simp; omega, by simpa using he2⟩, by omega, Off_reset _ _ _ (by simp), ⟨by simp, by simp [omons]⟩, by omega⟩
        | false =>
          rw [putGo_g _ hme hlt] at he2
          simp [go_sem]
          by_cases h0 : m.1 = 0
          · simp [go_sem, h0]
            rw [if_pos h0] at he2
            exact ⟨by omega, i + 1, O, ⟨by omega, by omega, he2⟩, by omega, Off_reset _ _ _ (by simp), ⟨rfl, rfl⟩, by omega⟩
          · simp [go_sem, h0]
            rw [if_neg h0] at he2
            exact ⟨⟨by omega, by omega⟩, by omega, i + 1, O ++ [m], ⟨by omega, by simp; omega, by simpa using he2⟩, by omega, Off_reset _ _ _ (by simp), ⟨by simp, by simp [omons_app, omons_one]⟩, by omega⟩
  · simp [go_sem]
    rw [List.drop_eq_nil_of_le h] at he2
    cases done with
    | true =>
      simp [go_sem]
      rw [← he2]; simp [putGo]
    | false =>
      simp only [Bool.false_eq_true, if_false] at hO
      simp [go_sem]
      refine CallVC.of (l01Own_c e (by omega)) (by decide) ?_
      simp [go_sem]
      rw [← he2]
      exact ⟨⟨by omega, by omega⟩, by simp [putGo], by simp [putGo, omons_app, omons_one]⟩
end Go.Proofs.YtoeikpioonlmfaaGreat


namespace Go.Proofs.YtoeikpioonlmfaaGreat
set_option linter.unusedSectionVars false
set_option linter.unusedVariables false
set_option linter.unusedSimpArgs false
class CR (α : Type) extends Add α, Mul α where
  ofI : Int → α
  addC : ∀ a b : α, a + b = b + a
  addA : ∀ a b c : α, a + b + c = a + (b + c)
  add0 : ∀ a : α, a + ofI 0 = a
  mulC : ∀ a b : α, a * b = b * a
  mulA : ∀ a b c : α, a * b * c = a * (b * c)
  mul1 : ∀ a : α, a * ofI 1 = a
  mulD : ∀ a b c : α, a * (b + c) = a * b + a * c
  mul0 : ∀ a : α, a * ofI 0 = ofI 0
  ofAdd : ∀ a b : Int, ofI (a + b) = ofI a + ofI b
  ofMul : ∀ a b : Int, ofI (a * b) = ofI a * ofI b
namespace CR
section
variable {α : Type} [CR α]
instance : Std.Associative (α := α) (· + ·) := ⟨addA⟩
instance : Std.Commutative (α := α) (· + ·) := ⟨addC⟩
instance : Std.Associative (α := α) (· * ·) := ⟨mulA⟩
instance : Std.Commutative (α := α) (· * ·) := ⟨mulC⟩
theorem zadd (a : α) : ofI 0 + a = a := by rw [addC, add0]
theorem omul (a : α) : ofI 1 * a = a := by rw [mulC, mul1]
theorem zmul (a : α) : ofI 0 * a = ofI 0 := by rw [mulC, mul0]
end
end CR
open CR
instance : CR Int where
  ofI := id
  addC := Int.add_comm
  addA := Int.add_assoc
  add0 := Int.add_zero
  mulC := Int.mul_comm
  mulA := Int.mul_assoc
  mul1 := Int.mul_one
  mulD := Int.mul_add
  mul0 := Int.mul_zero
  ofAdd := fun _ _ => rfl
  ofMul := fun _ _ => rfl
abbrev Ser (α : Type) := Nat → α
def sh {α : Type} (a : Ser α) : Ser α := fun n => a (n + 1)
def cmul {α : Type} [CR α] : Nat → Ser α → Ser α → α
  | 0, a, b => a 0 * b 0
  | n + 1, a, b => a 0 * b (n + 1) + cmul n (sh a) b
section
variable {α : Type} [CR α]
theorem cmul_add (n : Nat) : ∀ (a b c : Ser α), cmul n a (fun i => b i + c i) = cmul n a b + cmul n a c := by
  induction n with
  | zero => intro a b c; exact mulD _ _ _
  | succ n ih => intro a b c; simp only [cmul, ih, mulD]; ac_rfl
theorem cmul_last (n : Nat) : ∀ (a b : Ser α), cmul (n + 1) a b = cmul n a (sh b) + a (n + 1) * b 0 := by
  induction n with
  | zero => intro a b; rfl
  | succ n ih =>
    intro a b
    rw [cmul, ih, cmul]
    show a 0 * b (n + 1 + 1) + (cmul n (sh a) (sh b) + a (n + 1 + 1) * b 0) = a 0 * b (n + 1 + 1) + cmul n (sh a) (sh b) + a (n + 1 + 1) * b 0
    ac_rfl
theorem cmul_comm (n : Nat) : ∀ (a b : Ser α), cmul n a b = cmul n b a := by
  induction n with
  | zero => intro a b; exact mulC _ _
  | succ n ih => intro a b; rw [cmul, cmul_last, ih, mulC, addC]
theorem cmul_smul (c : α) (n : Nat) : ∀ (a b : Ser α), cmul n (fun i => c * a i) b = c * cmul n a b := by
  induction n with
  | zero => intro a b; exact mulA _ _ _
  | succ n ih =>
    intro a b
    have := ih (sh a) b
    simp only [cmul, mulD]
    rw [← this, mulA]; rfl
theorem cmul_addl (n : Nat) (a b c : Ser α) : cmul n (fun i => a i + b i) c = cmul n a c + cmul n b c := by
  rw [cmul_comm n (fun i => a i + b i) c, cmul_add, cmul_comm n c a, cmul_comm n c b]
theorem cmul_assoc (n : Nat) : ∀ (a b c : Ser α), cmul n (fun i => cmul i a b) c = cmul n a (fun i => cmul i b c) := by
  induction n with
  | zero => intro a b c; exact mulA _ _ _
  | succ n ih =>
    intro a b c
    have e : sh (fun i => cmul i a b) = fun i => a 0 * sh b i + cmul i (sh a) b := rfl
    simp only [cmul]
    rw [e, cmul_addl, cmul_smul, ih, mulD]
    show a 0 * b 0 * c (n + 1) + _ = _
    rw [mulA]; ac_rfl
def sOf (k : Int) : Ser α := fun n => if n = 0 then ofI k else ofI 0
theorem cmul_of (k : Int) : ∀ (n : Nat) (a : Ser α), cmul n a (sOf k) = a n * ofI k := by
  intro n
  induction n with
  | zero => intro a; rfl
  | succ n ih =>
    intro a
    rw [cmul, ih]
    show a 0 * ofI 0 + a (n + 1) * ofI k = _
    rw [mul0, zadd]
instance : CR (Ser α) where
  add := fun a b n => a n + b n
  mul := fun a b n => cmul n a b
  ofI := sOf
  addC := fun a b => funext fun n => addC _ _
  addA := fun a b c => funext fun n => addA _ _ _
  add0 := fun a => funext fun n => by show a n + (if n = 0 then ofI 0 else ofI 0) = a n; rw [ite_self, add0]
  mulC := fun a b => funext fun n => cmul_comm n a b
  mulA := fun a b c => funext fun n => cmul_assoc n a b c
  mul1 := fun a => funext fun n => by show cmul n a (sOf 1) = a n; rw [cmul_of, mul1]
  mulD := fun a b c => funext fun n => cmul_add n a b c
  mul0 := fun a => funext fun n => by show cmul n a (sOf 0) = if n = 0 then ofI 0 else ofI 0; rw [cmul_of, mul0, ite_self]
  ofAdd := fun a b => funext fun n => by
    show (if n = 0 then (ofI (a + b) : α) else ofI 0) = (if n = 0 then ofI a else ofI 0) + (if n = 0 then ofI b else ofI 0)
    split
    · exact ofAdd _ _
    · rw [add0]
  ofMul := fun a b => funext fun n => by
    show (if n = 0 then (ofI (a * b) : α) else ofI 0) = cmul n (sOf a) (sOf b)
    rw [cmul_of]
    show (if n = 0 then (ofI (a * b) : α) else ofI 0) = (if n = 0 then ofI a else ofI 0) * ofI b
    split
    · exact ofMul _ _
    · rw [zmul]
theorem ser_add (a b : Ser α) (n : Nat) : (a + b) n = a n + b n := rfl
def pwr (a : α) : Nat → α
  | 0 => ofI 1
  | n + 1 => pwr a n * a
def sL {β : Type} (f : β → α) : List β → α
  | [] => ofI 0
  | b :: l => f b + sL f l
def mon (U : Nat → α) (e : Nat → Nat) : Nat → α
  | 0 => ofI 1
  | d + 1 => mon U e d * pwr (U d) (e d)
abbrev Trm := Int × (Nat → Nat)
def ev (d : Nat) (U : Nat → α) (L : List Trm) : α := sL (fun m => ofI m.1 * mon U m.2 d) L
end
structure Cg (α : Type) [CR α] where
  r : α → α → Prop
  refl : ∀ a, r a a
  symm : ∀ {a b}, r a b → r b a
  trans : ∀ {a b c}, r a b → r b c → r a c
  add : ∀ {a b c d}, r a b → r c d → r (a + c) (b + d)
  mul : ∀ {a b c d}, r a b → r c d → r (a * c) (b * d)
  of : ∀ {a b : Int}, a % 10007 = b % 10007 → r (ofI a) (ofI b)
def cgI : Cg Int where
  r := fun a b => a % 10007 = b % 10007
  refl := fun _ => rfl
  symm := fun h => h.symm
  trans := fun h k => h.trans k
  add := fun h k => by omega
  mul := fun {a b c d} h k => by rw [Int.mul_emod, h, k, ← Int.mul_emod]
  of := fun h => h
section
variable {α : Type} [CR α]
theorem cmul_cg (c : Cg α) {N : Nat} : ∀ {n : Nat} {a b a' b' : Ser α}, n < N → (∀ i, i < N → c.r (a i) (a' i)) → (∀ i, i < N → c.r (b i) (b' i)) → c.r (cmul n a b) (cmul n a' b')
  | n, a, b, a', b', hn, ha, hb => by
    have gen : ∀ (n : Nat) (a b a' b' : Ser α), (∀ i, i ≤ n → c.r (a i) (a' i)) → (∀ i, i ≤ n → c.r (b i) (b' i)) → c.r (cmul n a b) (cmul n a' b') := by
      intro n
      induction n with
      | zero => intro a b a' b' ha hb; exact c.mul (ha 0 (by omega)) (hb 0 (by omega))
      | succ n ih =>
        intro a b a' b' ha hb
        exact c.add (c.mul (ha 0 (by omega)) (hb (n + 1) (by omega))) (ih _ _ _ _ (fun i hi => ha (i + 1) (by omega)) (fun i hi => hb i (by omega)))
    exact gen n a b a' b' (fun i hi => ha i (by omega)) (fun i hi => hb i (by omega))
def cgS (c : Cg α) (N : Nat) : Cg (Ser α) where
  r := fun a b => ∀ n, n < N → c.r (a n) (b n)
  refl := fun a n _ => c.refl _
  symm := fun h n hn => c.symm (h n hn)
  trans := fun h k n hn => c.trans (h n hn) (k n hn)
  add := fun h k n hn => c.add (h n hn) (k n hn)
  mul := fun h k n hn => cmul_cg c hn h k
  of := fun {a b} h n hn => by
    show c.r (if n = 0 then ofI a else ofI 0) (if n = 0 then ofI b else ofI 0)
    split
    · exact c.of h
    · exact c.refl _
theorem Cg.sL (c : Cg α) {β : Type} {f g : β → α} : ∀ {l : List β}, (∀ b ∈ l, c.r (f b) (g b)) → c.r (sL f l) (sL g l)
  | [], _ => c.refl _
  | b :: l, h => c.add (h b (by simp)) (Cg.sL c (fun x hx => h x (by simp [hx])))
theorem Cg.pwr (c : Cg α) {a b : α} (h : c.r a b) : ∀ n, c.r (pwr a n) (pwr b n)
  | 0 => c.refl _
  | n + 1 => c.mul (Cg.pwr c h n) h
theorem Cg.mon (c : Cg α) {U V : Nat → α} (e : Nat → Nat) : ∀ {d : Nat}, (∀ k, k < d → c.r (U k) (V k)) → c.r (mon U e d) (mon V e d)
  | 0, _ => c.refl _
  | d + 1, h => c.mul (Cg.mon c e (fun k hk => h k (by omega))) (Cg.pwr c (h d (by omega)) _)
theorem Cg.ev (c : Cg α) {d : Nat} {U V : Nat → α} (h : ∀ k, k < d → c.r (U k) (V k)) (L : List Trm) : c.r (ev d U L) (ev d V L) :=
  c.sL (fun m _ => c.mul (c.refl _) (c.mon m.2 h))
end
end Go.Proofs.YtoeikpioonlmfaaGreat


namespace Go.Proofs.YtoeikpioonlmfaaGreat
open CR
set_option linter.unusedSectionVars false
set_option linter.unusedVariables false
set_option linter.unusedSimpArgs false
set_option maxHeartbeats 1000000
def ex (e : List Int) : Nat → Nat := fun k => (e[k]?.getD 0).toNat
def tr (m : Mon) : Trm := (m.1, ex m.2)
structure WOk (n : Nat) (B : Int) (m : Mon) : Prop where
  num : isN m.1
  len : m.2.length = n
  pw : ∀ x ∈ m.2, 0 ≤ x ∧ x ≤ B
theorem VOk.wok {n : Nat} {m : Mon} (h : VOk n m) : WOk n 3 m := ⟨h.num, h.len, h.pw⟩
theorem WOk.le {n : Nat} {B C : Int} {m : Mon} (h : WOk n B m) (hBC : B ≤ C) : WOk n C m := ⟨h.num, h.len, fun x hx => ⟨(h.pw x hx).1, Int.le_trans (h.pw x hx).2 hBC⟩⟩
theorem WOk.get {n : Nat} {B : Int} {m : Mon} (h : WOk n B m) (hB : 0 ≤ B) (k : Nat) : 0 ≤ m.2[k]?.getD 0 ∧ m.2[k]?.getD 0 ≤ B := by
  rcases Nat.lt_or_ge k m.2.length with hk | hk
  · simp [hk]; exact h.pw _ (List.getElem_mem hk)
  · simp [hk]; exact hB
section
variable {α : Type} [CR α]
def evM (d : Nat) (U : Nat → α) (L : List Mon) : α := ev d U (L.map tr)
theorem evM_nil (d : Nat) (U : Nat → α) : evM d U [] = ofI 0 := rfl
theorem evM_cons (d : Nat) (U : Nat → α) (m : Mon) (L : List Mon) : evM d U (m :: L) = ofI m.1 * mon U (ex m.2) d + evM d U L := rfl
def plusL (p : List Mon) (k : Int) : List Mon → List Mon
  | [] => p
  | m :: q => plusL (putL p (k * m.1 % 10007) m.2) k q
theorem plusL_app (p : List Mon) (k : Int) (q r : List Mon) : plusL p k (q ++ r) = plusL (plusL p k q) k r := by
  induction q generalizing p with
  | nil => rfl
  | cons m q ih => exact ih _
def addE (a b : List Int) : List Int := List.zipWith (· + ·) a b
def prodRow (a : Mon) (acc : List Mon) : List Mon → List Mon
  | [] => acc
  | b :: q => prodRow a (putL acc (a.1 * b.1 % 10007) (addE a.2 b.2)) q
def prodGo (acc : List Mon) (q : List Mon) : List Mon → List Mon
  | [] => acc
  | a :: p => prodGo (prodRow a acc q) q p
def prodL (p q : List Mon) : List Mon := prodGo [] q p
theorem prodRow_app (a : Mon) (acc p q : List Mon) : prodRow a acc (p ++ q) = prodRow a (prodRow a acc p) q := by
  induction p generalizing acc with
  | nil => rfl
  | cons m p ih => exact ih _
theorem prodGo_app (acc q p r : List Mon) : prodGo acc q (p ++ r) = prodGo (prodGo acc q p) q r := by
  induction p generalizing acc with
  | nil => rfl
  | cons m p ih => exact ih _
def LOk (n : Nat) (L : List Mon) : Prop := ∀ m ∈ L, m.2.length = n ∧ ∀ x ∈ m.2, 0 ≤ x
theorem LOk.tl {n : Nat} {m : Mon} {L : List Mon} (h : LOk n (m :: L)) : LOk n L := fun a ha => h a (by simp [ha])
theorem LOk.hd {n : Nat} {m : Mon} {L : List Mon} (h : LOk n (m :: L)) : m.2.length = n ∧ ∀ x ∈ m.2, 0 ≤ x := h m (by simp)
end
end Go.Proofs.YtoeikpioonlmfaaGreat


namespace Go.Proofs.YtoeikpioonlmfaaGreat
open Go.Abs
set_option linter.unusedSectionVars false
set_option linter.unusedVariables false
set_option linter.unusedSimpArgs false
set_option maxHeartbeats 1000000
theorem putGo_len (c : Int) (e : List Int) : ∀ (l : List Mon) (done : Bool), (putGo c e l done).length ≤ l.length + 1
  | [], true => by simp [putGo]
  | [], false => by simp [putGo]
  | m :: l, done => by
    have one : ∀ b : Mon, (if b.1 = 0 then [] else [b]).length ≤ 1 := fun b => by split <;> simp
    have ht : ∀ l : List Mon, (putGo c e l true).length ≤ l.length := by
      intro l
      induction l with
      | nil => simp [putGo]
      | cons m l ih => rw [putGo_t]; have := one m; simp; omega
    have h1 := putGo_len c e l done
    have h2 := ht l
    have h3 := one m
    have h4 := one ((m.1 + c) % 10007, m.2)
    simp only at h4
    rw [putGo]
    split
    · simp only [List.length_append, List.length_cons]; omega
    · split
      · simp only [List.length_append, List.length_cons]; omega
      · simp only [List.length_append, List.length_cons]; omega
theorem putL_len (L : List Mon) (c : Int) (e : List Int) : (putL L c e).length ≤ L.length + 1 := putGo_len c e L _
theorem putGo_wok {n : Nat} {B c : Int} {e : List Int} (h : WOk n B (c, e)) : ∀ (l : List Mon) (done : Bool), (∀ m ∈ l, WOk n B m) → ∀ m ∈ putGo c e l done, WOk n B m
  | [], true, _, m, hm => by simp [putGo] at hm
  | [], false, _, m, hm => by simp [putGo] at hm; rw [hm]; exact h
  | a :: l, done, hl, m, hm => by
    have ha := hl a (by simp)
    have ih := fun d => putGo_wok h l d (fun b hb => hl b (by simp [hb]))
    have one : ∀ b : Mon, WOk n B b → m ∈ (if b.1 = 0 then [] else [b]) → WOk n B m := fun b hb hmm => by
      split at hmm
      · simp at hmm
      · simp at hmm; rw [hmm]; exact hb
    rw [putGo] at hm
    split at hm
    · rcases List.mem_append.1 hm with hm | hm
      · exact one ((a.1 + c) % 10007, a.2) ⟨isN_mod _, ha.len, ha.pw⟩ hm
      · exact ih _ m hm
    · split at hm
      · rcases List.mem_cons.1 hm with hm | hm
        · rw [hm]; exact h
        · rcases List.mem_append.1 hm with hm | hm
          · exact one a ha hm
          · exact ih _ m hm
      · rcases List.mem_append.1 hm with hm | hm
        · exact one a ha hm
        · exact ih _ m hm
theorem WOk.low {n i : Nat} {B : Int} {m : Mon} (h : WOk n B m) (hi : i < n) (hp : 0 < m.2[i]?.getD 0) : WOk n B (m.1 * m.2[i]?.getD 0 % 10007, m.2.set i (m.2[i]?.getD 0 - 1)) := by
  have hl := h.len
  refine ⟨isN_mod _, by simpa using hl, fun x hx => ?_⟩
  rcases List.mem_or_eq_of_mem_set hx with hx | rfl
  · exact h.pw x hx
  · have hm : m.2[i]?.getD 0 ∈ m.2 := by
      rw [List.getElem?_eq_getElem (by omega), Option.getD_some]; exact List.getElem_mem _
    have := h.pw _ hm
    omega
end Go.Proofs.YtoeikpioonlmfaaGreat


namespace Go.Proofs.YtoeikpioonlmfaaGreat
open Go.Abs
set_option linter.unusedSectionVars false
set_option linter.unusedVariables false
set_option linter.unusedSimpArgs false
set_option maxHeartbeats 1000000
theorem omat_app (A C : List (List Int)) : omat (A ++ C) = omat A ++ omat C := by simp [omat]
theorem omat_nil : omat [] = [] := rfl
end Go.Proofs.YtoeikpioonlmfaaGreat


namespace Go.Proofs.YtoeikpioonlmfaaGreat
open Go.Abs
set_option linter.unusedSectionVars false
set_option linter.unusedVariables false
theorem small_of {f : List (List Mon)} (h : (cF f : Int) ≤ 1048576) : Small f := by
  unfold cF at h
  refine ⟨by omega, fun p hp => ?_⟩
  have h1 : p.length + sumC cM p ≤ sumC cP f := sumC_mem cP hp
  refine ⟨by omega, fun q hq => ?_⟩
  have h2 : q.2.length ≤ sumC cM p := sumC_mem cM hq
  omega
end Go.Proofs.YtoeikpioonlmfaaGreat


namespace Go.Proofs.YtoeikpioonlmfaaGreat
open Go.Abs
set_option linter.unusedSectionVars false
set_option linter.unusedVariables false
set_option linter.unusedSimpArgs false
set_option maxHeartbeats 4000000
def plusS (a b : List Int) (k : Int) : List Int := tb (fun i => (a[i]?.getD 0 + k % 10007 * b[i]?.getD 0) % 10007) a.length
@[simp] theorem plusS_len (a b : List Int) (k : Int) : (plusS a b k).length = a.length := by simp [plusS]
theorem plusS_N (a b : List Int) (k : Int) : Ns (plusS a b k) := tb_N fun i _ => isN_mod _
def scalS (a : List Int) (k : Int) : List Int := tb (fun i => a[i]?.getD 0 * (k % 10007) % 10007) a.length
@[simp] theorem scalS_len (a : List Int) (k : Int) : (scalS a k).length = a.length := by simp [scalS]
theorem scalS_N (a : List Int) (k : Int) : Ns (scalS a k) := tb_N fun i _ => isN_mod _
theorem plus_c (a b : List Int) (k : Int) (ha : Ns a) (hb : Ns b) (hk : fits k) (hl : a.length ≤ 1048576) (hab : a.length ≤ b.length) :
    Con Tryz.prog 110 [.sl a.length (avs a), .sl b.length (avs b), .int k] (.own 2 a.length (avs (plusS a b k))) := by
  refine con_of_vc Tryz.mixed ⟨10, [], [], []⟩ Tryz.func110 (by decide) rfl (by simp) (by decide) (by simp [freshOK, freshL, go_sem]) ?_
  rw [Tryz.ntmps110]
  simp [go_sem]
  refine loop_inv (7 :: 8 :: 9 :: List.range' 13 19) (fun i : Nat => [(7, .own 2 i (avs (tb (fun i => (a[i]?.getD 0 + k % 10007 * b[i]?.getD 0) % 10007) i))), (13, .int i)]) (fun i => i ≤ a.length) (fun i => a.length - i) 0 (by simp) (by simp [go_sem]) (by simp [go_sem]) ?_
  intro i hi
  simp [go_sem]
  refine ⟨fun h => ?_, fun h => ?_⟩ <;> simp at h
  · have h2 : i < b.length := by omega
    have m1 := mul_bound (isN_mod k) (hb.get i)
    have m2 := ha.get i
    have f1 : fits (k % 10007 * b[i]?.getD 0) := ⟨by omega, by omega⟩
    have f2 : fits (a[i]?.getD 0 + k % 10007 * b[i]?.getD 0) := by obtain ⟨x0, x1⟩ := m2; exact ⟨by omega, by omega⟩
    simp [go_sem, avs_drop h, avs_drop h2]
    refine ⟨⟨h, by rintro rfl; simp at h⟩, by kernel_rfl, ?_⟩
    refine CallD.of (num_c _ hk.1 hk.2) (by simp [roots, rootsL]) (by decide) ?_
    simp [go_sem]
    simp [go_sem, avs_drop h, avs_drop h2]
    refine ⟨⟨h2, by rintro rfl; simp at h2⟩, f1, f2, ?_⟩
    refine CallD.of (num_c _ f2.1 f2.2) (by simp [roots, rootsL]) (by decide) ?_
    simp [go_sem]
    refine ⟨by omega, ?_⟩
    refine ⟨by kernel_rfl, ?_⟩
    simp [go_sem]
    exact ⟨by omega, i + 1, by omega, by omega, Off_reset _ _ _ (by simp), by simp [tb_succ, avs_snoc], by omega⟩
  · have e : i = a.length := by omega
    subst e
    simp [go_sem]
    rfl
theorem scaled_c (a : List Int) (k : Int) (ha : Ns a) (hk : fits k) (hl : a.length ≤ 1048576) :
    Con Tryz.prog 105 [.sl a.length (avs a), .int k] (.own 2 a.length (avs (scalS a k))) := by
  refine con_of_vc Tryz.mixed ⟨8, [], [], []⟩ Tryz.func105 (by decide) rfl (by simp) (by decide) (by simp [freshOK, freshL, go_sem]) ?_
  rw [Tryz.ntmps105]
  simp [go_sem]
  refine loop_inv (5 :: 7 :: List.range' 11 13) (fun i : Nat => [(5, .own 2 i (avs (tb (fun i => a[i]?.getD 0 * (k % 10007) % 10007) i))), (11, .int i)]) (fun i => i ≤ a.length) (fun i => a.length - i) 0 (by simp) (by simp [go_sem]) (by simp [go_sem]) ?_
  intro i hi
  simp [go_sem]
  refine ⟨fun h => ?_, fun h => ?_⟩ <;> simp at h
  · have f1 := mul_fits (ha.get i) (isN_mod k)
    simp [go_sem, avs_drop h]
    refine ⟨⟨h, by rintro rfl; simp at h⟩, ?_⟩
    refine CallVC.of (num_c _ hk.1 hk.2) (by decide) ?_
    simp [go_sem]
    refine ⟨f1, ?_⟩
    refine CallVC.of (num_c _ f1.1 f1.2) (by decide) ?_
    simp [go_sem]
    exact ⟨by omega, by omega, i + 1, by omega, by omega, Off_reset _ _ _ (by simp), by simp [tb_succ, avs_snoc], by omega⟩
  · have e : i = a.length := by omega
    subst e
    simp [go_sem]
    rfl
theorem Clone_c (xs : List Int) (hl : xs.length ≤ 1048576) : Con Tryz.prog 117 [.sl xs.length (avs xs)] (.own 2 xs.length (avs xs)) := by
  refine con_of_vcN Tryz.mixed ⟨3, [], [], []⟩ Tryz.func117 (by decide) rfl (by simp) (by decide) (by simp [freshOK, freshL, go_sem]) ?_
  rw [Tryz.ntmps117]
  simp [go_sem]
  exact ⟨by omega, by omega⟩
end Go.Proofs.YtoeikpioonlmfaaGreat


namespace Go.Proofs.YtoeikpioonlmfaaGreat
open Go.Abs
set_option linter.unusedSectionVars false
set_option linter.unusedVariables false
set_option linter.unusedSimpArgs false
set_option maxHeartbeats 1000000
def MapN (c : Key → Option Int) : Prop := ∀ k x, c k = some x → isN x
set_option maxRecDepth 100000 in
theorem add_c (o q : Key → Option Int) (x : Int) (ho : MapN o) (hq : MapN q) (hx : fits x) :
    MCon Tryz.prog 62 [.mp o, .fmp q, .int x] (.tup []) [.mp (addM o q x), .any, .any] := by
  refine mcon_of_vc Tryz.mixed ⟨8, [], [], []⟩ [] [0] Tryz.func62 (by decide) rfl rfl (by simp) (by simp) (by simp) (by decide) ?_
  rw [Tryz.ntmps62]
  simp [go_sem]
  intro es hes
  have hval : ∀ e ∈ es, q e.1 = some e.2 := fun e he => hes.val e he
  refine loop_inv (0 :: 6 :: 7 :: List.range' 9 17) (fun y : Option (Key × Int) × List (Key × Int) => [(0, .mp (remA o q x y.2)), (9, .it y.1 y.2)]) (fun y => y.2.Pairwise (fun a b => a.1 ≠ b.1) ∧ ∀ e ∈ y.2, q e.1 = some e.2) (fun y => y.2.length) (none, es) ⟨hes.nd, hval⟩ (by simp [go_sem, remA_start hes]) (by simp [go_sem]) ?_
  rintro ⟨l, rem⟩ ⟨hnd, hrem⟩
  simp only at hnd hrem
  simp [go_sem, keyAV]
  refine ⟨fun hr => ?_, fun l1 k0 k1 k2 b l2 hr => ?_⟩
  · subst hr
    exact remA_end o q x
  · subst hr
    have hcx := hrem ((k0, k1, k2), b) (by simp)
    have hb : isN b := hq _ _ hcx
    have hnd2 : (l1 ++ l2).Pairwise (fun a b => a.1 ≠ b.1) := hnd.sublist (List.Sublist.append (List.Sublist.refl _) (List.sublist_cons_self _ _))
    have hrem2 : ∀ a b c' y, ((a, b, c'), y) ∈ l1 ++ l2 → q (a, b, c') = some y := fun a b c' y hm => hrem ((a, b, c'), y) (by
      rcases List.mem_append.1 hm with hm | hm <;> simp [hm])
    have hz : remA o q x (l1 ++ ((k0, k1, k2), b) :: l2) (k0, k1, k2) = o (k0, k1, k2) := remA_at
    have hs : mset (remA o q x (l1 ++ ((k0, k1, k2), b) :: l2)) (k0, k1, k2) (((o (k0, k1, k2)).getD 0 + x % 10007 * b) % 10007) = remA o q x (l1 ++ l2) := remA_step hnd hcx
    have ho0 : isN ((o (k0, k1, k2)).getD 0) := by
      cases hh : o (k0, k1, k2) with
      | none => simp [isN]
      | some v => exact ho _ _ hh
    simp [go_sem, hz]
    refine ⟨by kernel_rfl, ?_⟩
    refine CallD.of (num_c _ hx.1 hx.2) (by simp [roots, rootsL]) (by decide) ?_
    simp [go_sem]
    generalize (o (k0, k1, k2)).getD 0 = w at *
    have hm := mul_bound (isN_mod x) hb
    have hf1 : fits (x % 10007 * b) := ⟨by omega, by omega⟩
    have hf2 : fits (w + x % 10007 * b) := by obtain ⟨w0, w1⟩ := ho0; exact ⟨by omega, by omega⟩
    refine ⟨hf1, hf2, ?_⟩
    refine CallD.of (num_c _ hf2.1 hf2.2) (by simp [roots, rootsL]) (by decide) ?_
    simp [go_sem]
    refine ⟨by kernel_rfl, ?_⟩
    simp [go_sem]
    exact ⟨_, _, ⟨hnd2, hrem2⟩, by simp; try omega, Off_reset _ _ _ (by simp), hs, rfl, rfl⟩
end Go.Proofs.YtoeikpioonlmfaaGreat


namespace Go.Proofs.YtoeikpioonlmfaaGreat
open Go.Abs
set_option linter.unusedSectionVars false
set_option linter.unusedVariables false
set_option linter.unusedSimpArgs false
set_option maxHeartbeats 1000000
theorem memD {α : Type} {l : List α} {i : Nat} (d : α) (h : i < l.length) : l[i]?.getD d ∈ l := by simp [h]
theorem mons_drop1 {p : List Mon} {k : Nat} (h : k < p.length) : (mons p).drop (k * 2 + 1) = .sl (p[k]?.getD (0, [])).2.length (avs (p[k]?.getD (0, [])).2) :: mons (p.drop (k + 1)) := by
  rw [← List.drop_drop, mons_drop h]; rfl
def adE (a b : List Int) (j : Nat) : List Int := (List.range a.length).map fun t => if t < j then a[t]?.getD 0 + b[t]?.getD 0 else a[t]?.getD 0
@[simp] theorem adE_len (a b : List Int) (j : Nat) : (adE a b j).length = a.length := by simp [adE]
theorem adE_zero (a b : List Int) : adE a b 0 = a := by
  refine List.ext_getElem (by simp) fun i h1 h2 => ?_
  simp [adE, h2]
theorem adE_all {a b : List Int} (h : b.length = a.length) : adE a b a.length = addE a b := by
  refine List.ext_getElem (by simp [addE, h]) fun i h1 h2 => ?_
  simp at h1
  simp [adE, addE, h1, show i < b.length by omega]
theorem adE_get {a b : List Int} {j : Nat} (h : j < a.length) : (adE a b j)[j]?.getD 0 = a[j]?.getD 0 := by simp [adE, h]
theorem adE_set {a b : List Int} {j : Nat} (h : j < a.length) : (adE a b j).set j (a[j]?.getD 0 + b[j]?.getD 0) = adE a b (j + 1) := by
  refine List.ext_getElem (by simp) fun i h1 h2 => ?_
  simp at h1
  rw [List.getElem_set]
  by_cases e : j = i
  · subst e; simp [adE]
  · simp only [e, if_false, adE, List.getElem_map, List.getElem_range]
    by_cases h3 : i < j
    · simp [h3, show i < j + 1 by omega]
    · simp [h3, show ¬ i < j + 1 by omega]
theorem WOk.prod {n : Nat} {B C : Int} {a b : Mon} (ha : WOk n B a) (hb : WOk n C b) : WOk n (B + C) (a.1 * b.1 % 10007, addE a.2 b.2) := by
  have h1 := ha.len
  have h2 := hb.len
  refine ⟨isN_mod _, by simp [addE]; omega, fun x hx => ?_⟩
  obtain ⟨i, hi, rfl⟩ := List.getElem_of_mem hx
  unfold addE at hi ⊢
  simp at hi ⊢
  have p1 := ha.pw _ (List.getElem_mem (show i < a.2.length by omega))
  have p2 := hb.pw _ (List.getElem_mem (show i < b.2.length by omega))
  omega
theorem prodRow_wok {n : Nat} {B C : Int} {a : Mon} (ha : WOk n B a) : ∀ (q acc : List Mon), (∀ m ∈ q, WOk n C m) → (∀ m ∈ acc, WOk n (B + C) m) → ∀ m ∈ prodRow a acc q, WOk n (B + C) m
  | [], _, _, h => h
  | b :: q, acc, hq, h => prodRow_wok ha q _ (fun m hm => hq m (by simp [hm])) (putGo_wok (ha.prod (hq b (by simp))) acc _ h)
theorem prodGo_wok {n : Nat} {B C : Int} {q : List Mon} (hq : ∀ m ∈ q, WOk n C m) : ∀ (p acc : List Mon), (∀ m ∈ p, WOk n B m) → (∀ m ∈ acc, WOk n (B + C) m) → ∀ m ∈ prodGo acc q p, WOk n (B + C) m
  | [], _, _, h => h
  | a :: p, acc, hp, h => prodGo_wok hq p _ (fun m hm => hp m (by simp [hm])) (prodRow_wok (hp a (by simp)) q acc hq h)
theorem prodRow_len (a : Mon) : ∀ (q acc : List Mon), (prodRow a acc q).length ≤ acc.length + q.length
  | [], _ => by simp [prodRow]
  | b :: q, acc => by
    rw [prodRow]
    have h1 := prodRow_len a q (putL acc (a.1 * b.1 % 10007) (addE a.2 b.2))
    have h2 := putL_len acc (a.1 * b.1 % 10007) (addE a.2 b.2)
    simp only [List.length_cons]; omega
theorem prodGo_len (q : List Mon) : ∀ (p acc : List Mon), (prodGo acc q p).length ≤ acc.length + p.length * q.length
  | [], _ => by simp [prodGo]
  | a :: p, acc => by
    rw [prodGo]
    have h1 := prodGo_len q p (prodRow a acc q)
    have h2 := prodRow_len a q acc
    simp only [List.length_cons, Nat.add_mul, Nat.one_mul]; omega
set_option maxRecDepth 100000 in
theorem l13Product_c {n : Nat} {B C : Int} (p q : List Mon) (hn : n ≤ 1000) (hB : 0 ≤ B) (hB2 : B ≤ 1000000) (hC : 0 ≤ C) (hC2 : C ≤ 1000000) (hp : ∀ m ∈ p, WOk n B m) (hq : ∀ m ∈ q, WOk n C m) (hpl : p.length ≤ 1000000000000) (hql : q.length ≤ 1000000000000) (hl : p.length * q.length ≤ 1000000000000) :
    Con Tryz.prog 79 [.sl p.length (mons p), .sl q.length (mons q)] (.own 97 (prodL p q).length (omons (prodL p q))) := by
  refine con_of_vc Tryz.mixed ⟨10, [], [], []⟩ Tryz.func79 (by decide) rfl (by simp) (by decide) (by simp [freshOK, freshL, go_sem]) ?_
  rw [Tryz.ntmps79]
  simp [go_sem]
  refine loop_inv (List.range' 5 5 ++ List.range' 11 54) (fun i : Nat => [(5, .own 97 (prodGo [] q (p.take i)).length (omons (prodGo [] q (p.take i)))), (6, .int i)]) (fun i => i ≤ p.length) (fun i => p.length - i) 0 (by simp) (by simp [go_sem, prodGo]) (by simp [go_sem]) ?_
  intro i hi
  simp [go_sem]
  refine ⟨fun h => ?_, fun h => ?_⟩ <;> simp at h
  · have hif := h
    have ha := hp _ (memD (0, []) hif)
    have hd : prodGo [] q (p.take (i + 1)) = prodRow (p[i]?.getD (0, [])) (prodGo [] q (p.take i)) q := by
      rw [List.take_add_one, prodGo_app]; simp [hif, prodGo]
    have hw : ∀ m ∈ prodGo [] q (p.take i), WOk n (B + C) m := prodGo_wok hq _ [] (fun m hm => hp m (List.mem_of_mem_take hm)) (by simp)
    have hdl := prodGo_len q (p.take i) []
    have hil : (i + 1) * q.length ≤ p.length * q.length := Nat.mul_le_mul_right _ hif
    rw [Nat.add_mul, Nat.one_mul] at hil
    have hml : (p.take i).length * q.length ≤ i * q.length := Nat.mul_le_mul_right _ (by simp; omega)
    simp only [List.length_nil, Nat.zero_add] at hdl
    generalize prodGo [] q (p.take i) = acc at *
    simp [go_sem]
    generalize hM : p[i]?.getD (0, []) = a at *
    refine loop_inv (5 :: 7 :: 8 :: 9 :: List.range' 17 48) (fun k : Nat => [(5, .own 97 (prodRow a acc (q.take k)).length (omons (prodRow a acc (q.take k)))), (7, .int k)]) (fun k => k ≤ q.length) (fun k => q.length - k) 0 (by simp) (by simp [go_sem, prodRow]) (by simp [go_sem]) ?_
    intro k hk
    simp [go_sem]
    refine ⟨fun h => ?_, fun h => ?_⟩ <;> simp at h
    · have hkf := h
      have hb := hq _ (memD (0, []) hkf)
      have hd2 : prodRow a acc (q.take (k + 1)) = putL (prodRow a acc (q.take k)) (a.1 * (q[k]?.getD (0, [])).1 % 10007) (addE a.2 (q[k]?.getD (0, [])).2) := by
        rw [List.take_add_one, prodRow_app]; simp [hkf, prodRow]
      have hw2 : ∀ m ∈ prodRow a acc (q.take k), WOk n (B + C) m := prodRow_wok ha _ _ (fun m hm => hq m (List.mem_of_mem_take hm)) hw
      have hdl2 := prodRow_len a (q.take k) acc
      have hkl : (q.take k).length ≤ k := by simp; omega
      generalize prodRow a acc (q.take k) = acc2 at *
      have al := ha.len
      have bl := hb.len
      have cO := l01Own_c a.2 (by omega)
      have wp := ha.prod hb
      simp [go_sem, mons_drop hif, hM]
      generalize hM2 : q[k]?.getD (0, []) = b at *
      refine ⟨⟨hif, by rintro rfl; simp at hif⟩, ?_⟩
      refine CallVC.of (cO) (by decide) ?_
      simp [go_sem]
      refine loop_inv (8 :: 9 :: List.range' 29 22) (fun j : Nat => [(8, .own 2 a.2.length (avs (adE a.2 b.2 j))), (9, .int j)]) (fun j => j ≤ a.2.length) (fun j => a.2.length - j) 0 (by simp) (by simp [go_sem, adE_zero]) (by simp [go_sem]) ?_
      intro j hj
      simp [go_sem]
      refine ⟨fun h => ?_, fun h => ?_⟩ <;> simp at h
      · have hja := h
        have hjb : j < b.2.length := by omega
        have hjs : j < (adE a.2 b.2 j).length := by simpa using hja
        have g1 := ha.get hB j
        have g2 := hb.get hC j
        have hset := adE_set (b := b.2) hja
        have hget := adE_get (b := b.2) hja
        simp [go_sem, mons_drop hkf, hM2, avs_drop hjb, avs_at hjs, hget]
        refine ⟨by kernel_rfl, hja, ⟨hkf, by rintro rfl; simp at hkf⟩, ⟨hjb, by intro e; simp [e] at hjb⟩, ⟨by omega, by omega⟩, hja, ?_⟩
        refine ⟨by kernel_rfl, ?_⟩
        simp [go_sem]
        exact ⟨by omega, j + 1, by omega, by omega, Off_reset _ _ _ (by simp), by rw [avs_set, hset], by omega⟩
      · have e : j = a.2.length := by omega
        subst e
        have hall := adE_all (a := a.2) (b := b.2) (by omega)
        have m1 := mul_fits ha.num hb.num
        have cP := l13Put_c acc2 (a.1 * b.1 % 10007) (addE a.2 b.2) (isN_mod _) (fun q hq => ⟨(hw2 q hq).num, by have := (hw2 q hq).len; omega⟩) (by omega) (by have := wp.len; simp at this; omega)
        have el : (addE a.2 b.2).length = a.2.length := by have := wp.len; simp at this; omega
        rw [el, ← hd2] at cP
        rw [hall]
        simp [go_sem, mons_drop hif, hM, mons_drop hkf, hM2]
        refine ⟨by kernel_rfl, ⟨hif, by rintro rfl; simp at hif⟩, ⟨hkf, by rintro rfl; simp at hkf⟩, ?_⟩
        refine CallD.of (l01Mul_c _ _ m1) (by simp [roots, rootsL]) (by decide) ?_
        simp [go_sem]
        refine CallD.of (cP) (by simp [roots, rootsL]) (by decide) ?_
        simp [go_sem]
        refine ⟨by kernel_rfl, ?_⟩
        simp [go_sem]
        exact ⟨by omega, k + 1, by omega, by omega, (Off.reset (by intro x hx; simp at hx ⊢; omega) (by simp) (by simp [go_sem, Off_reset])), ⟨rfl, rfl⟩, by omega⟩
    · have e : k = q.length := by omega
      subst e
      rw [List.take_length, ← hd]
      simp [go_sem]
      exact ⟨by omega, i + 1, by omega, by omega, (Off.reset (by intro x hx; simp at hx ⊢; omega) (by simp) (by simp [go_sem, Off_reset])), ⟨rfl, rfl⟩, by omega⟩
  · simp [go_sem]
    rw [List.take_of_length_le h]
    simp [prodL]
set_option maxRecDepth 100000 in
theorem l13Copy_c (p : List Mon) (hp : ∀ m ∈ p, m.2.length ≤ 1048576) (hl : p.length ≤ 1000000000000) :
    Con Tryz.prog 139 [.sl p.length (mons p)] (.own 97 p.length (omons p)) := by
  refine con_of_vc Tryz.mixed ⟨5, [], [], []⟩ Tryz.func139 (by decide) rfl (by simp) (by decide) (by simp [freshOK, freshL, go_sem]) ?_
  rw [Tryz.ntmps139]
  simp [go_sem]
  refine loop_inv (3 :: 4 :: List.range' 6 21) (fun i : Nat => [(3, .own 97 i (omons (p.take i))), (4, .int i)]) (fun i => i ≤ p.length) (fun i => p.length - i) 0 (by simp) (by simp [go_sem, omons]) (by simp [go_sem]) ?_
  intro i hi
  simp [go_sem]
  refine ⟨fun h => ?_, fun h => ?_⟩ <;> simp at h
  · have hif := h
    have hx := hp _ (memD (0, []) hif)
    have ht : omons (p.take (i + 1)) = omons (p.take i) ++ [.int (p[i]?.getD (0, [])).1, .own 2 (p[i]?.getD (0, [])).2.length (avs (p[i]?.getD (0, [])).2)] := by
      rw [List.take_add_one, omons_app]; simp [hif, omons]
    simp [go_sem, mons_drop hif]
    generalize hM : p[i]?.getD (0, []) = a at *
    refine ⟨by kernel_rfl, ⟨hif, by rintro rfl; simp at hif⟩, ?_⟩
    refine CallD.of (l01Own_c a.2 (by omega)) (by simp [roots, rootsL]) (by decide) ?_
    simp [go_sem]
    refine ⟨⟨by omega, by omega⟩, ?_⟩
    refine ⟨by kernel_rfl, ?_⟩
    simp [go_sem]
    exact ⟨by omega, i + 1, by omega, by omega, Off_reset _ _ _ (by simp), by rw [ht]; exact ⟨rfl, rfl⟩, by omega⟩
  · have e : i = p.length := by omega
    subst e
    simp [go_sem]
theorem plusL_wok {n : Nat} {B k : Int} : ∀ (q p : List Mon), (∀ m ∈ q, WOk n B m) → (∀ m ∈ p, WOk n B m) → ∀ m ∈ plusL p k q, WOk n B m
  | [], p, _, hp => hp
  | m :: q, p, hq, hp => plusL_wok q _ (fun a ha => hq a (by simp [ha])) (putGo_wok ⟨isN_mod _, (hq m (by simp)).len, (hq m (by simp)).pw⟩ p _ hp)
theorem plusL_len (k : Int) : ∀ (q p : List Mon), (plusL p k q).length ≤ p.length + q.length
  | [], _ => by simp [plusL]
  | m :: q, p => by
    rw [plusL]
    have h1 := plusL_len k q (putL p (k * m.1 % 10007) m.2)
    have h2 := putL_len p (k * m.1 % 10007) m.2
    simp only [List.length_cons]; omega
set_option maxRecDepth 100000 in
theorem l13Plus_c {n : Nat} {B k : Int} (p q : List Mon) (hn : n ≤ 1000) (hk : isN k) (hp : ∀ m ∈ p, WOk n B m) (hq : ∀ m ∈ q, WOk n B m) (hl : p.length + q.length ≤ 1000000000000) :
    Con Tryz.prog 66 [.sl p.length (mons p), .sl q.length (mons q), .int k] (.own 97 (plusL p k q).length (omons (plusL p k q))) := by
  refine con_of_vc Tryz.mixed ⟨9, [29], [], []⟩ Tryz.func66 (by decide) rfl (by simp) (by decide) (by simp [freshOK, freshL, go_sem]) ?_
  rw [Tryz.ntmps66]
  simp [go_sem]
  refine loop_inv (7 :: 8 :: List.range' 10 20) (fun i : Nat => [(7, .sl (plusL p k (q.take i)).length (mons (plusL p k (q.take i)))), (8, .int i)]) (fun i => i ≤ q.length) (fun i => q.length - i) 0 (by simp) (by simp [go_sem, plusL]) (by simp [go_sem]) ?_
  intro i hi
  simp [go_sem]
  refine ⟨fun h => ?_, fun h => ?_⟩ <;> simp at h
  · have hif := h
    have hb := hq _ (memD (0, []) hif)
    have hd : plusL p k (q.take (i + 1)) = putL (plusL p k (q.take i)) (k * (q[i]?.getD (0, [])).1 % 10007) (q[i]?.getD (0, [])).2 := by
      rw [List.take_add_one, plusL_app]; simp [hif, plusL]
    have hw : ∀ m ∈ plusL p k (q.take i), WOk n B m := plusL_wok _ p (fun m hm => hq m (List.mem_of_mem_take hm)) hp
    have hll := plusL_len k (q.take i) p
    have hkl : (q.take i).length ≤ i := by simp; omega
    generalize plusL p k (q.take i) = acc at *
    have bl := hb.len
    have m1 := mul_fits hk hb.num
    have cP := l13Put_c acc (k * (q[i]?.getD (0, [])).1 % 10007) (q[i]?.getD (0, [])).2 (isN_mod _) (fun q hq => ⟨(hw q hq).num, by have := (hw q hq).len; omega⟩) (by omega) (by omega)
    rw [← hd] at cP
    generalize hN : plusL p k (q.take (i + 1)) = nxt at *
    simp [go_sem, mons_drop hif]
    generalize hM : q[i]?.getD (0, []) = a at *
    refine ⟨by kernel_rfl, ⟨hif, by rintro rfl; simp at hif⟩, ?_⟩
    refine CallD.of (l01Mul_c _ _ m1) (by simp [roots, rootsL]) (by decide) ?_
    simp [go_sem]
    simp [go_sem, mons_drop hif, mons_drop1 hif, hM]
    refine ⟨⟨hif, by rintro rfl; simp at hif⟩, ?_⟩
    refine CallD.of (cP) (by simp [go_sem, roots, rootsL]) (by decide) ?_
    simp [go_sem]
    refine ⟨by kernel_rfl, ?_⟩
    simp [go_sem]
    exact ⟨by omega, i + 1, by omega, by omega, Off_reset _ _ _ (by simp), by rw [hN]; exact ⟨rfl, rfl⟩, by omega⟩
  · have e : i = q.length := by omega
    subst e
    have hw : ∀ m ∈ plusL p k q, WOk n B m := plusL_wok _ p hq hp
    have hll := plusL_len k q p
    simp [go_sem]
    refine CallVC.of (l13Copy_c (plusL p k q) (fun m hm => by have := (hw m hm).len; omega) (by omega)) (by decide) ?_
    simp [go_sem]
def oneE (n k : Nat) : List Int := (List.replicate n 0).set k 1
@[simp] theorem oneE_len (n k : Nat) : (oneE n k).length = n := by simp [oneE]
theorem oneE_wok {n k : Nat} : WOk n 1 (1, oneE n k) := by
  refine ⟨⟨by omega, by omega⟩, by simp, fun x hx => ?_⟩
  rcases List.mem_or_eq_of_mem_set hx with hx | rfl
  · obtain ⟨_, rfl⟩ := List.mem_replicate.1 hx
    omega
  · omega
theorem l13One_c (n k : Nat) (hn : n ≤ 1048576) (hk : k < n) : Con Tryz.prog 148 [.int n, .int k] (.own 2 n (avs (oneE n k))) := by
  refine con_of_vc Tryz.mixed ⟨6, [], [], []⟩ Tryz.func148 (by decide) rfl (by simp) (by decide) (by simp [freshOK, freshL, go_sem]) ?_
  rw [Tryz.ntmps148]
  simp [go_sem]
  refine ⟨⟨by omega, by omega⟩, hk, ?_⟩
  rw [avs_repl, avs_set]; rfl
theorem prodL_wok {n : Nat} {B C : Int} {p q : List Mon} (hp : ∀ m ∈ p, WOk n B m) (hq : ∀ m ∈ q, WOk n C m) : ∀ m ∈ prodL p q, WOk n (B + C) m := prodGo_wok hq p [] hp (by simp)
theorem prodL_len (p q : List Mon) : (prodL p q).length ≤ p.length * q.length := by have := prodGo_len q p []; unfold prodL; simpa using this
def keys20 : List Key := [(0,0,0),(0,0,1),(0,0,2),(0,0,3),(0,1,0),(0,1,1),(0,1,2),(0,2,0),(0,2,1),(0,3,0),(1,0,0),(1,0,1),(1,0,2),(1,1,0),(1,1,1),(1,2,0),(2,0,0),(2,0,1),(2,1,0),(3,0,0)]
theorem pigeon {α : Type} [DecidableEq α] : ∀ (l E : List α), l.Pairwise (fun a b => a ≠ b) → (∀ x ∈ l, x ∈ E) → l.length ≤ E.length
  | [], _, _, _ => by simp
  | a :: l, E, hn, hs => by
    obtain ⟨h1, h2⟩ := List.pairwise_cons.1 hn
    have ha := hs a (by simp)
    have := pigeon l (E.erase a) h2 (fun x hx => (List.mem_erase_of_ne (Ne.symm (h1 x hx))).2 (hs x (by simp [hx])))
    rw [List.length_erase_of_mem ha] at this
    have hp := List.length_pos_of_mem ha
    simp only [List.length_cons]; omega
theorem in20 {a b c : Int} (ha : 0 ≤ a) (hb : 0 ≤ b) (hc : 0 ≤ c) (h : a + b + c ≤ 3) : ((a, b, c) : Key) ∈ keys20 := by
  have h1 : a = 0 ∨ a = 1 ∨ a = 2 ∨ a = 3 := by omega
  have h2 : b = 0 ∨ b = 1 ∨ b = 2 ∨ b = 3 := by omega
  have h3 : c = 0 ∨ c = 1 ∨ c = 2 ∨ c = 3 := by omega
  rcases h1 with rfl | rfl | rfl | rfl <;> rcases h2 with rfl | rfl | rfl | rfl <;> rcases h3 with rfl | rfl | rfl | rfl <;> first | (exfalso; omega) | decide
theorem part20 {z : Int} {p : List Mon} (hz : z ≤ 3) (h : partB z p = true) : p.length ≤ 20 := by
  have hn := keys_nd hz h
  have := pigeon (p.map fun m => keyOf m.2) keys20 (List.pairwise_map.2 hn) (fun k hk => by
    obtain ⟨m, hm, rfl⟩ := List.mem_map.1 hk
    have ho := partB_mem h hm
    have hl := ho.len
    have hp := ho.pw
    have hd := ho.deg
    obtain ⟨x, e⟩ := m
    simp only at hl hp hd ⊢
    match e, hl, hp, hd with
    | [], _, _, _ => exact in20 (by decide) (by decide) (by decide) (by decide)
    | [a], _, hp, hd => have := hp a (by simp); simp at hd; exact in20 (by simpa [keyOf] using this.1) (by simp) (by simp) (by simp [keyOf]; omega)
    | [a, b], _, hp, hd => have h1 := hp a (by simp); have h2 := hp b (by simp); simp at hd; exact in20 (by simpa [keyOf] using h1.1) (by simpa [keyOf] using h2.1) (by simp) (by simp [keyOf]; omega)
    | [a, b, c], _, hp, hd => have h1 := hp a (by simp); have h2 := hp b (by simp); have h3 := hp c (by simp); simp at hd; exact in20 (by simpa [keyOf] using h1.1) (by simpa [keyOf] using h2.1) (by simpa [keyOf] using h3.1) (by simp [keyOf]; omega)
    | _ :: _ :: _ :: _ :: _, hl, _, _ => simp at hl; omega)
  simpa [keys20] using this
end Go.Proofs.YtoeikpioonlmfaaGreat


namespace Go.Proofs.YtoeikpioonlmfaaGreat
open Go.Abs
set_option linter.unusedSectionVars false
set_option linter.unusedVariables false
set_option linter.unusedSimpArgs false
set_option maxHeartbeats 1000000
def cfT (T : List (Key × Int)) (k : Key) : Int := coef Prod.fst Prod.snd T k
def mapT (T : List (Key × Int)) : Key → Option Int := fun k => if hasK T k = true then some (cfT T k % 10007) else none
theorem cfT_app (a b : List (Key × Int)) (k : Key) : cfT (a ++ b) k = cfT a k + cfT b k := sumI_app _ a b
theorem cfT_perm {a b : List (Key × Int)} (h : a.Perm b) (k : Key) : cfT a k = cfT b k := by
  induction h with
  | nil => rfl
  | cons x _ ih => simp only [cfT, coef, sumI] at ih ⊢; rw [ih]
  | swap x y l => simp only [cfT, coef, sumI]; omega
  | trans _ _ i1 i2 => rw [i1, i2]
theorem hasK_perm {a b : List (Key × Int)} (h : a.Perm b) (k : Key) : hasK a k = hasK b k := by
  cases hb : hasK b k with
  | true =>
    obtain ⟨e, he, hk⟩ := hasK_iff.1 hb
    exact hasK_iff.2 ⟨e, h.mem_iff.2 he, hk⟩
  | false =>
    cases ha : hasK a k with
    | false => rfl
    | true =>
      obtain ⟨e, he, hk⟩ := hasK_iff.1 ha
      rw [hasK_iff.2 ⟨e, h.mem_iff.1 he, hk⟩] at hb
      simp at hb
theorem mapT_perm {a b : List (Key × Int)} (h : a.Perm b) : mapT a = mapT b := by
  funext k
  unfold mapT
  rw [hasK_perm h, cfT_perm h]
theorem mapT_nil : mapT [] = mzero := by funext k; simp [mapT, hasK, mzero]
theorem cfT_none {T : List (Key × Int)} {k : Key} (h : hasK T k = false) : cfT T k = 0 := by
  unfold cfT coef
  refine sumI_zero (fun e he => if_neg (fun e1 => ?_))
  rw [hasK_iff.2 ⟨e, he, e1.symm⟩] at h
  simp at h
theorem mapT_get (T : List (Key × Int)) (k : Key) : (mapT T k).getD 0 = cfT T k % 10007 := by
  unfold mapT
  cases h : hasK T k with
  | true => simp
  | false => simp [cfT_none h]
theorem mapT_N {T : List (Key × Int)} {k : Key} : isN ((mapT T k).getD 0) := by rw [mapT_get]; exact isN_mod _
theorem mapT_snoc (T : List (Key × Int)) (k0 : Key) (v : Int) : mset (mapT T) k0 (((mapT T k0).getD 0 + v) % 10007) = mapT (T ++ [(k0, v)]) := by
  funext k
  unfold mset
  by_cases hk : k = k0
  · subst hk
    rw [if_pos rfl, mapT_get]
    have h1 : hasK (T ++ [(k, v)]) k = true := by simp [hasK]
    have h2 : cfT (T ++ [(k, v)]) k = cfT T k + v := by rw [cfT_app]; simp [cfT, coef, sumI]
    simp only [mapT, h1, h2, if_true]
    congr 1
    omega
  · rw [if_neg hk]
    have h1 : hasK (T ++ [(k0, v)]) k = hasK T k := by
      simp only [hasK, List.any_append, List.any_cons, List.any_nil, Bool.or_false]
      rw [decide_eq_false (fun e => hk e.symm)]; simp
    have h2 : cfT (T ++ [(k0, v)]) k = cfT T k := by rw [cfT_app]; simp [cfT, coef, sumI, hk]
    simp only [mapT, h1, h2]
def addK (a b : Key) : Key := (a.1 + b.1, a.2.1 + b.2.1, a.2.2 + b.2.2)
def prE (e : Key × Int) (E : List (Key × Int)) : List (Key × Int) := E.map fun d => (addK e.1 d.1, e.2 * d.2)
def prT (D E : List (Key × Int)) : List (Key × Int) := D.flatMap fun e => prE e E
theorem prT_cons (e : Key × Int) (D E : List (Key × Int)) : prT (e :: D) E = prE e E ++ prT D E := rfl
theorem prT_app (A D E : List (Key × Int)) : prT (A ++ D) E = prT A E ++ prT D E := by simp [prT]
theorem prE_app (e : Key × Int) (A E : List (Key × Int)) : prE e (A ++ E) = prE e A ++ prE e E := by simp [prE]
theorem prE_perm (e : Key × Int) {A E : List (Key × Int)} (h : A.Perm E) : (prE e A).Perm (prE e E) := h.map _
theorem prT_perm {A D : List (Key × Int)} (E : List (Key × Int)) (h : A.Perm D) : (prT A E).Perm (prT D E) := by
  induction h with
  | nil => exact .refl _
  | cons x _ ih => rw [prT_cons, prT_cons]; exact ih.append_left _
  | swap x y l =>
    rw [prT_cons, prT_cons, prT_cons, prT_cons, ← List.append_assoc, ← List.append_assoc]
    exact List.perm_append_comm.append_right _
  | trans _ _ i1 i2 => exact i1.trans i2
theorem prT_mid (l1 l2 E : List (Key × Int)) (e : Key × Int) (T : List (Key × Int)) : ((T ++ prE e E) ++ prT (l1 ++ l2) E).Perm (T ++ prT (l1 ++ e :: l2) E) := by
  rw [List.append_assoc]
  refine List.Perm.append_left _ ?_
  rw [prT_app, prT_app, prT_cons, ← List.append_assoc, ← List.append_assoc]
  exact List.perm_append_comm.append_right _
theorem prE_mid (l1 l2 : List (Key × Int)) (e d : Key × Int) (T : List (Key × Int)) : ((T ++ [(addK e.1 d.1, e.2 * d.2)]) ++ prE e (l1 ++ l2)).Perm (T ++ prE e (l1 ++ d :: l2)) := by
  rw [List.append_assoc]
  refine List.Perm.append_left _ ?_
  rw [prE_app, prE_app]
  show ([(addK e.1 d.1, e.2 * d.2)] ++ (prE e l1 ++ prE e l2)).Perm (prE e l1 ++ ([(addK e.1 d.1, e.2 * d.2)] ++ prE e l2))
  rw [← List.append_assoc, ← List.append_assoc]
  exact List.perm_append_comm.append_right _
def zdE (a b : List Int) (j : Nat) : List Int := (List.range 3).map fun t => if t < j then a[t]?.getD 0 + b[t]?.getD 0 else 0
@[simp] theorem zdE_len (a b : List Int) (j : Nat) : (zdE a b j).length = 3 := by simp [zdE]
theorem zdE_set {a b : List Int} {j : Nat} (h : j < 3) : (zdE a b j).set j (a[j]?.getD 0 + b[j]?.getD 0) = zdE a b (j + 1) := by
  refine List.ext_getElem (by simp) fun i h1 h2 => ?_
  simp at h1
  rw [List.getElem_set]
  by_cases e : j = i
  · subst e; simp [zdE]
  · simp only [e, if_false, zdE, List.getElem_map, List.getElem_range]
    by_cases h3 : i < j
    · simp [h3, show i < j + 1 by omega]
    · simp [h3, show ¬ i < j + 1 by omega]
theorem zdE_all (a b c d e f : Int) : avs (zdE [a, b, c] [d, e, f] 3) = [.int (a + d), .int (b + e), .int (c + f)] := by
  simp [zdE, avs, List.range, List.range.loop]
theorem eok_at {k0 k1 k2 x : Int} (h : EOk ((k0, k1, k2), x)) : ∀ i : Nat, 0 ≤ ([k0, k1, k2] : List Int)[i]?.getD 0 ∧ ([k0, k1, k2] : List Int)[i]?.getD 0 ≤ 1000 := by
  obtain ⟨_, a1, a2, a3, a4, a5, a6⟩ := h
  intro i
  match i with
  | 0 => exact ⟨a1, a2⟩
  | 1 => exact ⟨a3, a4⟩
  | 2 => exact ⟨a5, a6⟩
  | i + 3 => simp
set_option maxRecDepth 100000 in
theorem product_c {c c' : Key → Option Int} {D E : List (Key × Int)} (hD : Enum c D) (hE : Enum c' E) (hc : ∀ k x, c k = some x → EOk (k, x)) (hc' : ∀ k x, c' k = some x → EOk (k, x)) :
    Con Tryz.prog 63 [.fmp c, .fmp c'] (.mp (mapT (prT D E))) := by
  refine con_of_vc Tryz.mixed ⟨12, [], [], []⟩ Tryz.func63 (by decide) rfl (by simp) (by decide) (by simp [freshOK, freshL, go_sem]) ?_
  rw [Tryz.ntmps63]
  simp [go_sem]
  intro es hes
  refine loop_inv (5 :: 6 :: 7 :: 8 :: 9 :: 10 :: 11 :: List.range' 14 38) (fun x : List (Key × Int) × Option (Key × Int) × List (Key × Int) => [(5, .mp (mapT x.1)), (14, .it x.2.1 x.2.2)]) (fun x => (x.1 ++ prT x.2.2 E).Perm (prT D E) ∧ ∀ e ∈ x.2.2, EOk e) (fun x => x.2.2.length) ([], none, es) ⟨prT_perm E (enum_unique hes hD), fun e he => hc e.1 e.2 (hes.val e he)⟩ (by simp [go_sem, mapT_nil]) (by simp [go_sem]) ?_
  rintro ⟨T, l, rem⟩ ⟨hT, hrem⟩
  simp only at hT hrem
  simp [go_sem, keyAV]
  refine ⟨fun hr => ?_, fun l1 k0 k1 k2 x l2 hr => ?_⟩
  · subst hr
    rw [prT, List.flatMap_nil, List.append_nil] at hT
    exact mapT_perm hT
  · subst hr
    have hek := hrem ((k0, k1, k2), x) (by simp)
    have hx : isN x := hek.1
    intro es' hes'
    refine loop_inv (5 :: 8 :: 9 :: 10 :: 11 :: List.range' 21 31) (fun y : List (Key × Int) × Option (Key × Int) × List (Key × Int) => [(5, .mp (mapT y.1)), (21, .it y.2.1 y.2.2)]) (fun y => (y.1 ++ prE ((k0, k1, k2), x) y.2.2).Perm (T ++ prE ((k0, k1, k2), x) E) ∧ ∀ e ∈ y.2.2, EOk e) (fun y => y.2.2.length) (T, none, es') ⟨(prE_perm _ (enum_unique hes' hE)).append_left _, fun e he => hc' e.1 e.2 (hes'.val e he)⟩ (by simp [go_sem]) (by simp [go_sem]) ?_
    rintro ⟨T', l', rem'⟩ ⟨hT', hrem'⟩
    simp only at hT' hrem'
    simp [go_sem, keyAV]
    refine ⟨fun hr => ?_, fun l1' d0 d1 d2 b l2' hr => ?_⟩
    · subst hr
      rw [prE, List.map_nil, List.append_nil] at hT'
      refine ⟨T', _, l1 ++ l2, ⟨((hT'.append_right _).trans (prT_mid l1 l2 E _ T)).trans hT, fun a b c d he => hrem _ ?_⟩, by simp, (Off.reset (by intro x hx; simp at hx ⊢; omega) (by simp) (by simp [go_sem, Off_reset])), rfl, rfl, rfl⟩
      rcases List.mem_append.1 he with he | he <;> simp [he]
    · subst hr
      have hek' := hrem' ((d0, d1, d2), b) (by simp)
      have hb : isN b := hek'.1
      refine loop_inv (10 :: 11 :: List.range' 28 13) (fun i : Nat => [(10, .box 152 (avs (zdE [k0, k1, k2] [d0, d1, d2] i))), (28, .int i)]) (fun i => i ≤ 3) (fun i => 3 - i) 0 (by simp) (by simp [go_sem, zdE, avs, List.range, List.range.loop]) (by simp [go_sem]) ?_
      intro i hi
      simp [go_sem]
      refine ⟨fun h => ?_, fun h => ?_⟩ <;> simp at h
      · have hi3 : i < 3 := by omega
        have e3 : ([.val (.int .i64 k0), .val (.int .i64 k1), .val (.int .i64 k2)] : List AV)[i]? = some (.val (.int .i64 (([k0, k1, k2] : List Int)[i]?.getD 0))) := avs_at' (xs := [k0, k1, k2]) hi3
        have e4 : ([.val (.int .i64 d0), .val (.int .i64 d1), .val (.int .i64 d2)] : List AV)[i]? = some (.val (.int .i64 (([d0, d1, d2] : List Int)[i]?.getD 0))) := avs_at' (xs := [d0, d1, d2]) hi3
        have g3 : 0 ≤ ([k0, k1, k2] : List Int)[i]?.getD 0 ∧ ([k0, k1, k2] : List Int)[i]?.getD 0 ≤ 1000 := eok_at hek i
        have g4 : 0 ≤ ([d0, d1, d2] : List Int)[i]?.getD 0 ∧ ([d0, d1, d2] : List Int)[i]?.getD 0 ≤ 1000 := eok_at hek' i
        have hset := zdE_set (a := [k0, k1, k2]) (b := [d0, d1, d2]) hi3
        have hZl : (zdE [k0, k1, k2] [d0, d1, d2] i).length = 3 := zdE_len _ _ _
        generalize eZ : zdE [k0, k1, k2] [d0, d1, d2] (i + 1) = Z2 at *
        generalize zdE [k0, k1, k2] [d0, d1, d2] i = Z at *
        generalize ([k0, k1, k2] : List Int)[i]?.getD 0 = ki at *
        generalize ([d0, d1, d2] : List Int)[i]?.getD 0 = di at *
        simp [go_sem, e3, e4]
        refine ⟨by kernel_rfl, by omega, ⟨by omega, by omega⟩, ⟨by omega, by rintro rfl; simp at hZl⟩, by omega, ?_⟩
        refine ⟨by kernel_rfl, ?_⟩
        simp [go_sem]
        refine ⟨by omega, i + 1, by omega, by omega, Off_reset _ _ _ (by simp), ?_, by omega⟩
        rw [eZ, ← hset, avs_set]
      · have e : i = 3 := by omega
        subst e
        rw [zdE_all]
        have m1 := mul_fits hx hb
        have m2 := mul_bound hx hb
        have sN := mapT_N (T := T') (k := (k0 + d0, k1 + d1, k2 + d2))
        have hs := mapT_snoc T' (k0 + d0, k1 + d1, k2 + d2) (x * b)
        obtain ⟨s0, s1⟩ := sN
        simp [go_sem]
        refine ⟨by kernel_rfl, m1, ⟨by omega, by omega⟩, ?_⟩
        refine CallD.of (num_c _ (by omega) (by omega)) (by simp [roots, rootsL]) (by decide) ?_
        simp [go_sem]
        refine ⟨by kernel_rfl, ?_⟩
        simp [go_sem]
        refine ⟨T' ++ [((k0 + d0, k1 + d1, k2 + d2), x * b)], _, l1' ++ l2', ⟨(prE_mid l1' l2' ((k0, k1, k2), x) ((d0, d1, d2), b) T').trans hT', fun a b c d he => hrem' _ ?_⟩, by simp, (Off.reset (by intro x hx; simp at hx ⊢; omega) (by simp) (by simp [go_sem, Off_reset])), ?_, rfl, rfl⟩
        · rcases List.mem_append.1 he with he | he <;> simp [he]
        · rw [hs]
end Go.Proofs.YtoeikpioonlmfaaGreat


namespace Go.Proofs.YtoeikpioonlmfaaGreat
open Go.Abs
set_option linter.unusedSectionVars false
set_option linter.unusedVariables false
set_option linter.unusedSimpArgs false
set_option maxHeartbeats 1000000
theorem ltL_tri : ∀ {a b : List Int}, a.length = b.length → a ≠ b → ltL a b = false → ltL b a = true
  | [], [], _, h, _ => absurd rfl h
  | x :: a, y :: b, hl, h, h2 => by
    simp only [ltL] at h2 ⊢
    by_cases e : x = y
    · subst e
      simp only [if_true] at h2 ⊢
      exact ltL_tri (by simpa using hl) (fun e => h (by rw [e])) h2
    · rw [if_neg e] at h2
      rw [if_neg (fun x => e x.symm)]
      simp at h2 ⊢
      omega
def Srt (L : List Mon) : Prop := L.Pairwise (fun a b => ltL a.2 b.2 = true)
def Nzl (L : List Mon) : Prop := ∀ m ∈ L, 1 ≤ m.1 ∧ m.1 ≤ 10006
theorem putGo_keys {c : Int} {e : List Int} : ∀ (l : List Mon) (done : Bool), ∀ x ∈ putGo c e l done, (∃ m ∈ l, x.2 = m.2) ∨ (done = false ∧ x.2 = e)
  | [], true, x, hx => by simp [putGo] at hx
  | [], false, x, hx => by simp [putGo] at hx; rw [hx]; exact .inr ⟨rfl, rfl⟩
  | a :: l, done, x, hx => by
    have one : ∀ b : Mon, b.2 = a.2 → x ∈ (if b.1 = 0 then [] else [b]) → (∃ m ∈ a :: l, x.2 = m.2) ∨ (done = false ∧ x.2 = e) := fun b hb hxx => by
      split at hxx
      · simp at hxx
      · simp at hxx; exact .inl ⟨a, by simp, by rw [hxx, hb]⟩
    have tl : ∀ d, (d = true ∨ d = done) → x ∈ putGo c e l d → (∃ m ∈ a :: l, x.2 = m.2) ∨ (done = false ∧ x.2 = e) := fun d hd hxx => by
      rcases putGo_keys l d x hxx with ⟨m, hm, hk⟩ | ⟨h1, h2⟩
      · exact .inl ⟨m, by simp [hm], hk⟩
      · rcases hd with rfl | rfl
        · simp at h1
        · exact .inr ⟨h1, h2⟩
    rw [putGo] at hx
    split at hx
    · rcases List.mem_append.1 hx with hx | hx
      · exact one ((a.1 + c) % 10007, a.2) rfl hx
      · exact tl true (.inl rfl) hx
    · split at hx
      · rename_i h
        rcases List.mem_cons.1 hx with hx | hx
        · exact .inr ⟨h.1, by rw [hx]⟩
        · rcases List.mem_append.1 hx with hx | hx
          · exact one a rfl hx
          · exact tl true (.inl rfl) hx
      · rcases List.mem_append.1 hx with hx | hx
        · exact one a rfl hx
        · exact tl done (.inr rfl) hx
theorem putGo_srt {n : Nat} {c : Int} {e : List Int} (he : e.length = n) : ∀ (l : List Mon) (done : Bool), (∀ m ∈ l, m.2.length = n) → Srt l → Srt (putGo c e l done)
  | [], true, _, _ => by simp [putGo, Srt]
  | [], false, _, _ => by simp [putGo, Srt]
  | a :: l, done, hl, hs => by
    obtain ⟨h1, h2⟩ := List.pairwise_cons.1 hs
    have ih := fun d => putGo_srt (c := c) he l d (fun m hm => hl m (by simp [hm])) h2
    have cons : ∀ (b : Mon) (d : Bool), b.2 = a.2 → (d = true ∨ ltL a.2 e = true) → Srt ((if b.1 = 0 then [] else [b]) ++ putGo c e l d) := fun b d hb hd => by
      split
      · exact ih d
      · refine List.pairwise_cons.2 ⟨fun x hx => ?_, ih d⟩
        rw [hb]
        rcases putGo_keys l d x hx with ⟨m, hm, hk⟩ | ⟨h3, h4⟩
        · rw [hk]; exact h1 m hm
        · rw [h4]
          rcases hd with rfl | hd
          · simp at h3
          · exact hd
    rw [putGo]
    split
    · exact cons ((a.1 + c) % 10007, a.2) true rfl (.inl rfl)
    · rename_i n1
      split
      · rename_i h
        refine List.pairwise_cons.2 ⟨fun x hx => ?_, cons a true rfl (.inl rfl)⟩
        have key : (∃ m ∈ a :: l, x.2 = m.2) := by
          rcases List.mem_append.1 hx with hx | hx
          · split at hx
            · simp at hx
            · simp at hx; exact ⟨a, by simp, by rw [hx]⟩
          · rcases putGo_keys l true x hx with ⟨m, hm, hk⟩ | ⟨h3, _⟩
            · exact ⟨m, by simp [hm], hk⟩
            · simp at h3
        obtain ⟨m, hm, hk⟩ := key
        show ltL e x.2 = true
        rw [hk]
        rcases List.mem_cons.1 hm with rfl | hm
        · exact h.2
        · exact ltL_trans h.2 (h1 m hm)
      · rename_i n2
        cases done with
        | true => exact cons a true rfl (.inl rfl)
        | false =>
          have ne : a.2 ≠ e := fun x => n1 ⟨rfl, x⟩
          have nl : ltL e a.2 = false := by
            cases hb : ltL e a.2 with
            | false => rfl
            | true => exact absurd ⟨rfl, hb⟩ n2
          exact cons a false rfl (.inr (ltL_tri (by rw [he, hl a (by simp)]) (fun x => ne x.symm) nl))
theorem putGo_nz {c : Int} {e : List Int} (hc : 1 ≤ c ∧ c ≤ 10006) : ∀ (l : List Mon) (done : Bool), Nzl l → Nzl (putGo c e l done)
  | [], true, _ => by simp [putGo, Nzl]
  | [], false, _ => by intro m hm; simp [putGo] at hm; rw [hm]; exact hc
  | a :: l, done, hl => by
    have ha := hl a (by simp)
    have ih := fun d => putGo_nz (e := e) hc l d (fun m hm => hl m (by simp [hm]))
    have one : ∀ b : Mon, (b.1 = 0 ∨ 1 ≤ b.1 ∧ b.1 ≤ 10006) → ∀ L, Nzl L → Nzl ((if b.1 = 0 then [] else [b]) ++ L) := fun b hb L hL m hm => by
      rcases List.mem_append.1 hm with hm | hm
      · split at hm
        · simp at hm
        · rename_i h; simp at hm; rw [hm]; rcases hb with hb | hb; exact absurd hb h; exact hb
      · exact hL m hm
    rw [putGo]
    split
    · exact one ((a.1 + c) % 10007, a.2) (by simp only; omega) _ (ih true)
    · split
      · intro m hm
        rcases List.mem_cons.1 hm with rfl | hm
        · exact hc
        · exact one a (.inr ha) _ (ih true) m hm
      · exact one a (.inr ha) _ (ih done)
theorem putGo_done {c c' : Int} {e : List Int} : ∀ l : List Mon, putGo c e l true = putGo c' e l true
  | [] => rfl
  | a :: l => by rw [putGo_t, putGo_t, putGo_done l]
theorem putL_nz {L : List Mon} {c : Int} {e : List Int} (hc : isN c) (hL : Nzl L) : Nzl (putL L c e) := by
  unfold putL
  by_cases h : c = 0
  · rw [decide_eq_true h, putGo_done (c' := 1)]
    exact putGo_nz ⟨by omega, by omega⟩ L true hL
  · exact putGo_nz ⟨by have := hc.1; omega, by have := hc.2; omega⟩ L _ hL
theorem plusL_srt {n : Nat} {B k : Int} : ∀ (q p : List Mon), (∀ m ∈ q, WOk n B m) → (∀ m ∈ p, WOk n B m) → Srt p ∧ Nzl p → Srt (plusL p k q) ∧ Nzl (plusL p k q)
  | [], _, _, _, h => h
  | m :: q, p, hq, hp, h => by
    have hm := hq m (by simp)
    exact plusL_srt q _ (fun a ha => hq a (by simp [ha])) (putGo_wok ⟨isN_mod _, hm.len, hm.pw⟩ p _ hp) ⟨putGo_srt hm.len p _ (fun a ha => (hp a ha).len) h.1, putL_nz (isN_mod _) h.2⟩
theorem cfL_at {n : Nat} (hn : n ≤ 3) : ∀ {L : List Mon}, (∀ m ∈ L, m.2.length = n) → Srt L → ∀ m ∈ L, cfL L (keyOf m.2) = m.1
  | a :: L, hl, hs, m, hm => by
    obtain ⟨h1, h2⟩ := List.pairwise_cons.1 hs
    have ne : ∀ b ∈ L, keyOf a.2 ≠ keyOf b.2 := fun b hb e => by
      have := keyOf_inj (by rw [hl a (by simp), hl b (by simp [hb])]) (by rw [hl a (by simp)]; exact hn) e
      have h3 := h1 b hb
      rw [this, ltL_irr] at h3
      simp at h3
    rw [cfL_cons]
    rcases List.mem_cons.1 hm with rfl | hm
    · rw [if_pos rfl]
      have : cfL L (keyOf m.2) = 0 := by
        unfold cfL coef
        exact sumI_zero (fun b hb => if_neg (ne b hb))
      rw [this]; omega
    · rw [if_neg (fun e => ne m hm e.symm), cfL_at hn (fun b hb => hl b (by simp [hb])) h2 m hm]; omega
theorem plusL_cf (k : Int) (K : Key) : ∀ (q p : List Mon), cfL (plusL p k q) K % 10007 = (cfL p K + k * cfL q K) % 10007
  | [], p => by simp [plusL, cfL, coef, sumI]
  | m :: q, p => by
    rw [plusL, plusL_cf k K q, cfL_cons, Int.add_emod, putL_cf, Int.mul_add]
    by_cases h : K = keyOf m.2
    · simp only [h, if_true]; omega
    · simp only [h, if_false]; omega
def pcf (p q : List Mon) (K : Key) : Int := sumI (fun a => sumI (fun b => if K = keyOf (addE a.2 b.2) then a.1 * b.1 else 0) q) p
theorem prodRow_cf (a : Mon) (K : Key) : ∀ (q acc : List Mon), cfL (prodRow a acc q) K % 10007 = (cfL acc K + sumI (fun b => if K = keyOf (addE a.2 b.2) then a.1 * b.1 else 0) q) % 10007
  | [], acc => by simp [prodRow, sumI]
  | b :: q, acc => by
    rw [prodRow, prodRow_cf a K q, Int.add_emod, putL_cf]
    simp only [sumI]
    by_cases h : K = keyOf (addE a.2 b.2)
    · simp only [h, if_true]; omega
    · simp only [h, if_false]; omega
theorem prodGo_cf (q : List Mon) (K : Key) : ∀ (p acc : List Mon), cfL (prodGo acc q p) K % 10007 = (cfL acc K + pcf p q K) % 10007
  | [], acc => by simp [prodGo, pcf, sumI]
  | a :: p, acc => by
    rw [prodGo, prodGo_cf q K p, Int.add_emod, prodRow_cf]
    simp only [pcf, sumI]
    omega
theorem prodL_cf (p q : List Mon) (K : Key) : cfL (prodL p q) K % 10007 = pcf p q K % 10007 := by
  unfold prodL
  rw [prodGo_cf]; simp [cfL, coef, sumI]
theorem keyOf_add {a b : List Int} (hl : a.length = b.length) (h3 : a.length ≤ 3) : keyOf (addE a b) = addK (keyOf a) (keyOf b) := by
  match a, b, hl, h3 with
  | [], [], _, _ => rfl
  | [x], [y], _, _ => simp [keyOf, addE, addK]
  | [x, x'], [y, y'], _, _ => simp [keyOf, addE, addK]
  | [x, x', x''], [y, y', y''], _, _ => simp [keyOf, addE, addK]
theorem cfT_prE (e : Key × Int) (K : Key) : ∀ E : List (Key × Int), cfT (prE e E) K = sumI (fun d => if K = addK e.1 d.1 then e.2 * d.2 else 0) E
  | [] => rfl
  | d :: E => by
    show cfT ((addK e.1 d.1, e.2 * d.2) :: prE e E) K = _
    simp only [sumI, ← cfT_prE e K E]; rfl
theorem cfT_prT (K : Key) (E : List (Key × Int)) : ∀ D : List (Key × Int), cfT (prT D E) K = sumI (fun e => sumI (fun d => if K = addK e.1 d.1 then e.2 * d.2 else 0) E) D
  | [] => rfl
  | e :: D => by
    rw [prT_cons, cfT_app, cfT_prE, cfT_prT K E D]; rfl
end Go.Proofs.YtoeikpioonlmfaaGreat


namespace Go.Proofs.YtoeikpioonlmfaaGreat
open Go.Abs Go.Shelf Go.Sort
set_option linter.unusedSectionVars false
set_option linter.unusedVariables false
set_option linter.unusedSimpArgs false
set_option maxHeartbeats 1000000
theorem ltL_tot : ∀ {a b : List Int}, a ≠ b → ltL a b = false → ltL b a = true
  | [], [], h, _ => absurd rfl h
  | [], y :: b, _, h => by simp [ltL] at h
  | x :: a, [], _, _ => by simp [ltL]
  | x :: a, y :: b, h, h2 => by
    simp only [ltL] at h2 ⊢
    by_cases e : x = y
    · subst e
      simp only [if_true] at h2 ⊢
      exact ltL_tot (fun e => h (by rw [e])) h2
    · rw [if_neg e] at h2
      rw [if_neg (fun x => e x.symm)]
      simp at h2 ⊢
      omega
theorem cmpL_neg (a b : List Int) : decide (cmpL a b < 0) = ltL a b := by
  have h := cmpL_lt a b
  cases hl : ltL a b <;> rw [hl] at h <;> simp at h ⊢ <;> omega
theorem swo_mon : SWO (Go.Proofs.ltOf fun m n : Mon => cmpL m.2 n.2) := by
  have e : (Go.Proofs.ltOf fun m n : Mon => cmpL m.2 n.2) = fun m n => ltL m.2 n.2 := by
    funext m n; exact cmpL_neg _ _
  rw [e]
  refine ⟨fun m => ltL_irr _, fun _ _ _ => ltL_trans, fun x y z h1 h2 => ?_⟩
  cases h3 : ltL x.2 z.2 with
  | false => rfl
  | true =>
    by_cases e : x.2 = y.2
    · rw [← e, h3] at h2; exact h2
    · have := ltL_trans (ltL_tot e h1) h3
      rw [this] at h2; exact h2
theorem srt_two : ∀ {L : List Mon}, Srt L → ∀ a ∈ L, ∀ b ∈ L, a = b ∨ ltL a.2 b.2 = true ∨ ltL b.2 a.2 = true
  | [], _, a, ha, _, _ => by simp at ha
  | m :: L, h, a, ha, b, hb => by
    obtain ⟨h1, h2⟩ := List.pairwise_cons.1 h
    rcases List.mem_cons.1 ha with ha2 | ha2
    · rcases List.mem_cons.1 hb with hb2 | hb2
      · exact .inl (ha2.trans hb2.symm)
      · exact .inr (.inl (by rw [ha2]; exact h1 b hb2))
    · rcases List.mem_cons.1 hb with hb2 | hb2
      · exact .inr (.inr (by rw [hb2]; exact h1 a ha2))
      · exact srt_two h2 a ha2 b hb2
theorem part1_c [DrawK] (m n : Mon) (hm : m.2.length ≤ 1000) (hn : n.2.length ≤ 1000) :
    Con Tryz.prog 194 [.agg [.int m.1, .sl m.2.length (avs m.2)], .agg [.int n.1, .sl n.2.length (avs n.2)]] (.int (cmpL m.2 n.2)) := by
  refine con_of_vc Tryz.mixed ⟨5, [], [], []⟩ Tryz.func194 (by decide) rfl (by simp) (by decide) (by simp [freshOK, freshL, go_sem]) ?_
  rw [Tryz.ntmps194]
  simp [go_sem]
  refine CallVC.of (Compare_c m.2 n.2 (by omega) (by omega)) (by decide) ?_
  simp [go_sem]
theorem sort_unique {ys L : List Mon} (hp : ys.Perm L) (hS : Srt L) (hy : ys.Pairwise (fun x y => ¬ cmpL y.2 x.2 < 0)) : ys = L := by
  have hy' : ys.Pairwise (fun x y => ltL y.2 x.2 = false) := hy.imp (fun {a b} h => by
    have := cmpL_neg b.2 a.2
    rw [← this]; simpa using h)
  have hL' : L.Pairwise (fun x y => ltL y.2 x.2 = false) := hS.imp (fun {a b} h => by
    cases h2 : ltL b.2 a.2 with
    | false => rfl
    | true => have := ltL_trans h h2; rw [ltL_irr] at this; simp at this)
  refine hp.eq_of_pairwise (fun a b ha hb h1 h2 => ?_) hy' hL'
  rcases srt_two hS a (hp.mem_iff.1 ha) b hb with h | h | h
  · exact h
  · rw [h2] at h; simp at h
  · rw [h1] at h; simp at h
theorem sortMon_c (X L : List Mon) (hX : X.Perm L) (hS : Srt L) (hl : ∀ m ∈ L, m.2.length ≤ 1000) (hn : L.length ≤ 1048576) :
    MCon Tryz.prog 193 [.own 97 X.length (omons X), .val (.func (.func 194) #[] #[])] (.tup []) [.own 97 X.length (omons L), .any] := by
  have hxl := hX.length_eq
  have hm : ∀ m ∈ X, m.2.length ≤ 1000 := fun m hm => hl m (hX.mem_iff.1 hm)
  obtain ⟨ys, h1, h2, h3⟩ := sort_mcon Tryz.sortMon 2 Tryz.isAgg97 Tryz.sizeOf97 ⟨_, Tryz.func193, by decide, rfl⟩ (fun m : Mon => [.int m.1, .own 2 m.2.length (avs m.2)]) (fun m n => cmpL m.2 n.2) swo_mon 194 97 (by kernel_rfl) X (fun _ _ => rfl) (omons_fresh X)
    (fun x hx y hy => by simpa [frzL, frz] using @part1_c ⟨1⟩ x y (hm x hx) (hm y hy)) (by omega)
  have e : ys = L := sort_unique (h1.trans hX) hS h2
  subst e
  exact h3
theorem pref1 {P : Program} {f : FuncId} {n m : Nat} {cs : List AV} {r : AV} (h : Con P f [.sl n (cs.take m)] r) : Con P f [.sl n cs] r := by
  refine ⟨h.1, fun w vs hl hr => h.2 w vs (by simpa using hl) fun tm oss => ?_⟩
  have h1 := hr tm oss
  obtain ⟨v, rfl⟩ := List.length_eq_one_iff.1 hl.symm
  generalize ho : ([] : List Nat) = os at h1
  cases h1 with
  | cons _ _ o1 _ _ o2 h2 h3 =>
    cases h3
    have e : o1 = [] := by simpa using ho.symm
    subst e
    refine .cons _ _ [] _ _ [] ?_ (.nil _)
    cases h2 with
    | cell _ _ _ hc =>
      refine .cell _ _ _ ?_
      cases hc with
      | sl0 base cap => simpa using RepC.sl0 base cap
      | sl b off _ cap c e fr _ hF hb hL hn => exact .sl b off _ cap c e fr _ hF hb (hL.pref m) hn
theorem CloneN_c (k : List Int) (n : Nat) (hn : n ≤ k.length) (hl : k.length ≤ 1048576) : Con Tryz.prog 117 [.sl n (avs k)] (.own 2 n (avs (k.take n))) := by
  have h := Clone_c (k.take n) (by simp; omega)
  have e : (k.take n).length = n := by simp [hn]
  have e2 : avs (k.take n) = (avs k).take n := by simp [avs, List.map_take]
  rw [e, e2] at h
  rw [e2]
  exact pref1 h
def restM (n : Nat) (es : List (Key × Int)) : List Mon := (es.filter fun e => decide (e.2 ≠ 0)).map fun e => (e.2, [e.1.1, e.1.2.1, e.1.2.2].take n)
theorem restM_split (n : Nat) (l1 l2 : List (Key × Int)) (e : Key × Int) : (restM n (l1 ++ e :: l2)).Perm (if e.2 = 0 then restM n (l1 ++ l2) else (e.2, [e.1.1, e.1.2.1, e.1.2.2].take n) :: restM n (l1 ++ l2)) := by
  unfold restM
  by_cases h : e.2 = 0
  · simp [h]
  · rw [if_neg h]
    have e1 : decide (e.2 ≠ 0) = true := by simp [h]
    rw [List.filter_append, List.filter_cons, e1, if_pos rfl, List.filter_append, List.map_append, List.map_append, List.map_cons]
    exact List.perm_middle
theorem keyOf_take {m : Mon} {n : Nat} (hm : m.2.length = n) (hn : n ≤ 3) : [(keyOf m.2).1, (keyOf m.2).2.1, (keyOf m.2).2.2].take n = m.2 := by
  obtain ⟨a, e⟩ := m
  subst hm
  rcases e with _ | ⟨a, _ | ⟨b, _ | ⟨c, _ | ⟨d, e⟩⟩⟩⟩
  all_goals first | rfl | (simp at hn)
theorem restM_perm {c : Key → Option Int} {n : Nat} {L : List Mon} (hn : n ≤ 3) (hS : Srt L) (hL : ∀ k a, (c k = some a ∧ a ≠ 0) ↔ (k, a) ∈ L.map keyM) (hl : ∀ m ∈ L, m.2.length = n) {es : List (Key × Int)} (he : Enum c es) : (restM n es).Perm L := by
  have hmem : ∀ k a, (k, a) ∈ es ↔ c k = some a := fun k a => ⟨fun h => he.val _ h, fun h => by
    by_cases hx : ∃ p ∈ es, p.1 = k
    · obtain ⟨p, hp, rfl⟩ := hx
      have := he.val p hp
      rw [h] at this
      injection this with this
      subst this
      exact hp
    · have := he.out k (fun p hp e => hx ⟨p, hp, e⟩)
      rw [h] at this; simp at this⟩
  have hin : ∀ e ∈ es, e.2 ≠ 0 → ∃ m ∈ L, keyM m = e := fun e he h0 => by
    have := (hL e.1 e.2).1 ⟨(hmem _ _).1 he, h0⟩
    obtain ⟨m, hm, h⟩ := List.mem_map.1 this
    exact ⟨m, hm, h⟩
  have hmono : ∀ e ∈ es, e.2 ≠ 0 → ∃ m ∈ L, keyM m = e ∧ (e.2, [e.1.1, e.1.2.1, e.1.2.2].take n) = m := fun e he h0 => by
    obtain ⟨m, hm, rfl⟩ := hin e he h0
    refine ⟨m, hm, rfl, ?_⟩
    show (m.1, [(keyOf m.2).1, (keyOf m.2).2.1, (keyOf m.2).2.2].take n) = m
    rw [keyOf_take (hl m hm) hn]
  have hLn : L.Nodup := hS.imp (fun {a b} h e => by rw [e, ltL_irr] at h; simp at h)
  refine (List.perm_ext_iff_of_nodup ?_ hLn).2 fun m => ?_
  · unfold restM
    rw [List.nodup_iff_pairwise_ne, List.pairwise_map, List.pairwise_filter]
    refine List.Pairwise.imp_of_mem (fun {a b} ha hb h h1 h2 e => ?_) he.nd
    simp at h1 h2
    obtain ⟨m1, _, g1, g2⟩ := hmono a ha h1
    obtain ⟨m2, _, g3, g4⟩ := hmono b hb h2
    rw [g2, g4] at e
    rw [← g1, ← g3, e] at h
    exact h rfl
  · unfold restM
    rw [List.mem_map]
    constructor
    · rintro ⟨e, h1, rfl⟩
      obtain ⟨h1, h2⟩ := List.mem_filter.1 h1
      obtain ⟨m, hm, _, h⟩ := hmono e h1 (by simpa using h2)
      rw [h]; exact hm
    · intro hm
      have h1 := (hL (keyOf m.2) m.1).2 (List.mem_map.2 ⟨m, hm, rfl⟩)
      refine ⟨(keyOf m.2, m.1), List.mem_filter.2 ⟨(hmem _ _).2 h1.1, by simpa using h1.2⟩, ?_⟩
      show (m.1, [(keyOf m.2).1, (keyOf m.2).2.1, (keyOf m.2).2.2].take n) = m
      rw [keyOf_take (hl m hm) hn]
set_option maxRecDepth 100000 in
theorem part_c (c : Key → Option Int) (n : Nat) (L : List Mon) (h1n : 1 ≤ n) (hn : n ≤ 3) (hS : Srt L) (hL : ∀ k a, (c k = some a ∧ a ≠ 0) ↔ (k, a) ∈ L.map keyM) (hl : ∀ m ∈ L, m.2.length = n) (hLl : L.length ≤ 1048576) :
    Con Tryz.prog 136 [.fmp c, .int n] (.own 97 L.length (omons L)) := by
  refine con_of_vc Tryz.mixed ⟨8, [], [193], []⟩ Tryz.func136 (by decide) rfl (by simp) (by decide) (by simp [freshOK, freshL, go_sem]) ?_
  rw [Tryz.ntmps136]
  simp [go_sem]
  intro es hes
  have hp := restM_perm hn hS hL hl hes
  refine loop_inv (5 :: 6 :: 7 :: List.range' 10 16) (fun x : List Mon × Option (Key × Int) × List (Key × Int) => [(5, .own 97 x.1.length (omons x.1)), (10, .it x.2.1 x.2.2)]) (fun x => (x.1 ++ restM n x.2.2).Perm L) (fun x => x.2.2.length) ([], none, es) (by simpa using hp) (by simp [go_sem]) (by simp [go_sem]) ?_
  rintro ⟨X, l, rem⟩ hX
  simp only at hX
  have hXl : X.length ≤ L.length := by have := hX.length_eq; simp at this; omega
  simp [go_sem, keyAV]
  refine ⟨fun hr => ?_, fun l1 k0 k1 k2 x l2 hr => ?_⟩
  · subst hr
    have hX' : X.Perm L := by simpa [restM] using hX
    refine ⟨_, _, sortMon_c X L hX' hS (fun m hm => by have := hl m hm; omega) hLl, ?_⟩
    simp [go_sem]
    exact hX'.length_eq
  · subst hr
    refine ⟨fun h => ?_, fun h => ?_⟩ <;> simp at h
    · have cC := CloneN_c [k0, k1, k2] n (by simpa using hn) (by simp)
      simp [go_sem, avs]
      refine ⟨⟨by omega, by omega⟩, ?_⟩
      refine CallVC.of (cC) (by decide) ?_
      simp [go_sem]
      have hp2 : ((X ++ [(x, [k0, k1, k2].take n)]) ++ restM n (l1 ++ l2)).Perm L := by
        refine List.Perm.trans ?_ hX
        rw [List.append_assoc]
        have := (restM_split n l1 l2 ((k0, k1, k2), x)).symm
        rw [if_neg h] at this
        exact List.Perm.append_left X this
      have hl3 : ([k0, k1, k2].take n).length = n := by simp; omega
      have hxl := hp2.length_eq
      simp at hxl
      refine ⟨⟨by omega, by omega⟩, X ++ [(x, [k0, k1, k2].take n)], some ((k0, k1, k2), x), l1 ++ l2, hp2, by simp, Off_reset _ _ _ (by simp), ?_⟩
      simp [omons_app, omons_one, hl3]
    · have hp2 : (X ++ restM n (l1 ++ l2)).Perm L := by
        refine List.Perm.trans ?_ hX
        have := (restM_split n l1 l2 ((k0, k1, k2), x)).symm
        rw [if_pos h] at this
        exact List.Perm.append_left X this
      simp [go_sem]
      refine ⟨X, some ((k0, k1, k2), x), l1 ++ l2, hp2, by simp, Off_reset _ _ _ (by simp), ?_⟩
      simp
end Go.Proofs.YtoeikpioonlmfaaGreat


namespace Go.Proofs.YtoeikpioonlmfaaGreat
open Go.Abs
set_option linter.unusedSectionVars false
set_option linter.unusedVariables false
set_option linter.unusedSimpArgs false
set_option maxHeartbeats 1000000
theorem cfL_key : ∀ {L : List Mon} {K : Key}, cfL L K ≠ 0 → ∃ m ∈ L, keyOf m.2 = K
  | [], K, h => absurd rfl h
  | m :: L, K, h => by
    by_cases e : K = keyOf m.2
    · exact ⟨m, by simp, e.symm⟩
    · rw [cfL_cons, if_neg e, Int.zero_add] at h
      obtain ⟨m', h1, h2⟩ := cfL_key h
      exact ⟨m', by simp [h1], h2⟩
theorem part_list {c : Key → Option Int} {n : Nat} {L : List Mon} (hn : n ≤ 3) (hc : MapN c) (hS : Srt L) (hZ : Nzl L) (hl : ∀ m ∈ L, m.2.length = n) (hv : ∀ K, gv c K % 10007 = cfL L K % 10007) (k : Key) (a : Int) :
    (c k = some a ∧ a ≠ 0) ↔ (k, a) ∈ L.map keyM := by
  have hv := hv k
  constructor
  · rintro ⟨h1, h2⟩
    have ha := hc k a h1
    have g : gv c k = a := by simp [gv, h1]
    rw [g] at hv
    have h3 : cfL L k ≠ 0 := fun e => by rw [e] at hv; have := ha.1; have := ha.2; omega
    obtain ⟨m, hm, rfl⟩ := cfL_key h3
    have e := cfL_at hn hl hS m hm
    have hz := hZ m hm
    rw [e] at hv
    have : m.1 = a := by have := ha.1; have := ha.2; omega
    exact List.mem_map.2 ⟨m, hm, by rw [← this]; rfl⟩
  · intro h
    obtain ⟨m, hm, e⟩ := List.mem_map.1 h
    have e1 : keyOf m.2 = k := congrArg Prod.fst e
    have e2 : m.1 = a := congrArg Prod.snd e
    subst e1 e2
    have hz := hZ m hm
    rw [cfL_at hn hl hS m hm] at hv
    cases hc' : c (keyOf m.2) with
    | none => simp [gv, hc'] at hv; omega
    | some b =>
      have hb := hc _ _ hc'
      have g : gv c (keyOf m.2) = b := by simp [gv, hc']
      rw [g] at hv
      have : b = m.1 := by have := hb.1; have := hb.2; omega
      exact ⟨by rw [this], by omega⟩
theorem part_c2 {c : Key → Option Int} {n : Nat} {L : List Mon} (h1n : 1 ≤ n) (hn : n ≤ 3) (hc : MapN c) (hS : Srt L) (hZ : Nzl L) (hl : ∀ m ∈ L, m.2.length = n) (hLl : L.length ≤ 1048576) (hv : ∀ K, gv c K % 10007 = cfL L K % 10007) :
    Con Tryz.prog 136 [.fmp c, .int n] (.own 97 L.length (omons L)) :=
  part_c c n L h1n hn hS (part_list hn hc hS hZ hl hv) hl hLl
def ptA (Ls : List (List Mon)) : Nat → AV
  | 0 => .val (.slice none 0 0)
  | i + 1 => .own 92 (i + 1) (oprt (Ls.take (i + 1)))
theorem ptA_zero (Ls : List (List Mon)) : ptA Ls 0 = .val (.slice none 0 0) := rfl
theorem ptA_succ (Ls : List (List Mon)) (i : Nat) : ptA Ls (i + 1) = .own 92 (i + 1) (oprt (Ls.take (i + 1))) := rfl
theorem oprt_snoc (Ls : List (List Mon)) {i : Nat} (h : i < Ls.length) : oprt (Ls.take (i + 1)) = oprt (Ls.take i) ++ [.own 97 (Ls[i]?.getD []).length (omons (Ls[i]?.getD []))] := by
  rw [List.take_add_one, List.getElem?_eq_getElem h, Option.toList_some, oprt_app]; simp [oprt, h]
theorem fmps_drop {cs : List (Key → Option Int)} {k : Nat} (h : k < cs.length) : (cs.map AV.fmp).drop k = .fmp (cs[k]?.getD mzero) :: (cs.drop (k + 1)).map AV.fmp := by
  rw [← List.map_drop, List.drop_eq_getElem_cons h, List.map_cons]; simp [h]
set_option maxRecDepth 100000 in
theorem fieldOf_c (n : Nat) (cs : List (Key → Option Int)) (Ls : List (List Mon)) (hl : cs.length = Ls.length) (h0 : 0 < cs.length) (h3 : cs.length ≤ 3)
    (hp : ∀ i, i < cs.length → Con Tryz.prog 136 [.fmp (cs[i]?.getD mzero), .int n] (.own 97 (Ls[i]?.getD []).length (omons (Ls[i]?.getD [])))) :
    Con Tryz.prog 65 [.int n, .sl cs.length (cs.map AV.fmp)] (.agg [.int n, .own 92 Ls.length (oprt Ls)]) := by
  refine con_of_vc Tryz.mixed ⟨8, [], [], []⟩ Tryz.func65 (by decide) rfl (by simp) (by decide) (by simp [freshOK, freshL, go_sem]) ?_
  rw [Tryz.ntmps65]
  simp [go_sem]
  refine loop_inv (5 :: 7 :: List.range' 12 13) (fun i : Nat => [(5, .box 26 [.int n, ptA Ls i]), (12, .int i)]) (fun i => i ≤ cs.length) (fun i => cs.length - i) 0 (by simp) (by simp [go_sem, ptA]) (by simp [go_sem]) ?_
  intro i hi
  simp [go_sem]
  refine ⟨fun h => ?_, fun h => ?_⟩ <;> simp at h
  · have hif := h
    have cp := hp i hif
    rcases i with _ | j
    · simp [go_sem, ptA_zero, fmps_drop hif]
      refine ⟨⟨hif, fun e => by rw [e] at hif; simp at hif⟩, by kernel_rfl, ?_⟩
      refine CallD.of (cp) (by simp [roots, rootsL]) (by decide) ?_
      simp [go_sem]
      refine ⟨by kernel_rfl, ?_⟩
      simp [go_sem]
      have hs := oprt_snoc Ls (i := 0) (by omega)
      refine ⟨1, by omega, by omega, Off_reset _ _ _ (by simp), ?_, by simp⟩
      rw [ptA_succ, hs]
      simp [oprt]
    · simp [go_sem, ptA_succ, fmps_drop hif]
      refine ⟨⟨by omega, by omega, fun e => by rw [e] at hif; simp at hif⟩, by kernel_rfl, ?_⟩
      refine CallD.of (cp) (by simp [roots, rootsL]) (by decide) ?_
      simp [go_sem]
      have hs := oprt_snoc Ls (i := j + 1) (by omega)
      refine ⟨⟨by omega, by omega, by omega⟩, ?_⟩
      refine ⟨by kernel_rfl, ?_⟩
      simp [go_sem]
      refine ⟨by omega, j + 1 + 1, by omega, by omega, Off_reset _ _ _ (by simp), ?_, by omega⟩
      rw [ptA_succ, hs]
  · have e : i = cs.length := by omega
    subst e
    obtain ⟨j, hj⟩ : ∃ j, cs.length = j + 1 := ⟨cs.length - 1, by omega⟩
    have e2 : ptA Ls cs.length = .own 92 Ls.length (oprt Ls) := by
      rw [hj, ptA_succ, ← hj, hl, List.take_length]
    rw [e2]
    simp [go_sem]
end Go.Proofs.YtoeikpioonlmfaaGreat


namespace Go.Proofs.YtoeikpioonlmfaaGreat
open Go.Abs
set_option linter.unusedSectionVars false
set_option linter.unusedVariables false
set_option linter.unusedSimpArgs false
set_option maxHeartbeats 1000000
@[simp] theorem mat_frz (A : List (List Int)) : frzL (mat A) = mat A := by
  induction A with
  | nil => rfl
  | cons r A ih => simp only [mat, List.map_cons, frzL] at ih ⊢; rw [ih]; rfl
end Go.Proofs.YtoeikpioonlmfaaGreat


namespace Go.Proofs.YtoeikpioonlmfaaGreat
open Go.Abs
set_option linter.unusedSectionVars false
set_option linter.unusedVariables false
set_option linter.unusedSimpArgs false
set_option maxHeartbeats 1000000
end Go.Proofs.YtoeikpioonlmfaaGreat


namespace Go.Proofs.YtoeikpioonlmfaaGreat
open Go.Abs CR
set_option linter.unusedSectionVars false
set_option linter.unusedVariables false
set_option linter.unusedSimpArgs false
set_option maxHeartbeats 1000000
end Go.Proofs.YtoeikpioonlmfaaGreat


namespace Go.Proofs.YtoeikpioonlmfaaGreat
open Go.Abs CR
set_option linter.unusedSectionVars false
set_option linter.unusedVariables false
set_option linter.unusedSimpArgs false
set_option maxHeartbeats 1000000
section
variable {α : Type} [CR α]
def lin (u : α) (v : Int) : Ser α := fun n => if n = 0 then u else if n = 1 then ofI v else ofI 0
end
abbrev Pol : Type 1 := (α : Type) → [CR α] → (Nat → α) → α
def polM (d : Nat) (p : List Mon) : Pol := fun α [CR α] U => evM d U p
def Alk (F G : Pol) : Prop := ∀ (α : Type) [CR α] (c : Cg α) (U : Nat → α), c.r (F α U) (G α U)
end Go.Proofs.YtoeikpioonlmfaaGreat


namespace Go.Proofs.YtoeikpioonlmfaaGreat
open Go.Abs
set_option linter.unusedSectionVars false
set_option linter.unusedVariables false
set_option linter.unusedSimpArgs false
set_option maxHeartbeats 1000000
def Tiny (f : List (List Mon)) : Prop := f.length ≤ 3 ∧ ∀ p ∈ f, p.length ≤ 100000 ∧ ∀ m ∈ p, m.2.length ≤ 3
theorem sumC_bound {α : Type} (c : α → Nat) (B : Nat) : ∀ l : List α, (∀ a ∈ l, c a ≤ B) → sumC c l ≤ l.length * B + l.length
  | [], _ => by simp [sumC]
  | a :: l, h => by
    have h1 := h a (by simp)
    have h2 := sumC_bound c B l (fun b hb => h b (by simp [hb]))
    simp only [sumC, List.length_cons, Nat.add_mul, Nat.one_mul]
    omega
theorem Tiny.small {f : List (List Mon)} (h : Tiny f) : f.length ≤ 1048576 ∧ ∀ p ∈ f, p.length ≤ 1048576 ∧ ∀ m ∈ p, m.2.length ≤ 1048576 :=
  ⟨by have := h.1; omega, fun p hp => ⟨by have := (h.2 p hp).1; omega, fun m hm => by have := (h.2 p hp).2 m hm; omega⟩⟩
theorem Tiny.fit {f : List (List Mon)} (h : Tiny f) : Fit f :=
  ⟨by have := h.1; omega, fun p hp => ⟨by have := (h.2 p hp).1; omega, fun m hm => by have := (h.2 p hp).2 m hm; omega⟩⟩
theorem Tiny.count {f : List (List Mon)} (h : Tiny f) : sumC cP f ≤ 10000000 := by
  have h1 : ∀ p ∈ f, cP p ≤ 600000 := fun p hp => by
    have l := (h.2 p hp).1
    have := sumC_bound cM 3 p (fun m hm => (h.2 p hp).2 m hm)
    unfold cP
    omega
  have := sumC_bound cP 600000 f h1
  have := h.1
  omega
theorem marksS_app : ∀ (p q : List Mon) (k : Int), marksS (p ++ q) k = marksS p k ++ marksS q (k + cP p)
  | [], q, k => by simp [marksS, cP, sumC]
  | m :: p, q, k => by
    have e : k + 1 + (m.2.length : Int) + cP p = k + cP (m :: p) := by simp [cP, sumC, cM]; omega
    simp [marksS, marksS_app p q, e]
theorem marksS_at {p : List Mon} {i : Nat} (h : i < p.length) (k : Int) : (marksS p k)[i]?.getD (0, []) = (k + cP (p.take i), marks p[i].2.length (k + cP (p.take i) + 1)) := by
  have hs : marksS p k = marksS (p.take i) k ++ marksS (p.drop i) (k + cP (p.take i)) := by rw [← marksS_app, List.take_append_drop]
  rw [hs, List.getElem?_append_right (by simp; omega), List.drop_eq_getElem_cons h]
  simp [marksS, Nat.min_eq_left (Nat.le_of_lt h)]
theorem heldMonomialS_c (p : List Mon) (k : Int) (hl : p.length ≤ 1048576) (hr : ∀ m ∈ p, m.2.length ≤ 1048576) (h0 : 0 ≤ k) (h1 : k + cP p ≤ 9223372036854775807) :
    Con Tryz.prog 156 [.sl p.length (mons (marksS p k)), .int k] (.int (k + cP p)) := by
  refine con_of_vc Tryz.mixed ⟨6, [], [], []⟩ Tryz.func156 (by decide) rfl (by simp) (by decide) (by simp [freshOK, freshL, go_sem]) ?_
  rw [Tryz.ntmps156]
  simp [go_sem]
  refine loop_inv (1 :: 4 :: 5 :: List.range' 6 24) (fun i : Nat => [(1, .int (k + cP (p.take i))), (5, .int i)]) (fun i => i ≤ p.length) (fun i => p.length - i) 0 (by simp) (by simp [go_sem, cP, sumC]) (by simp [go_sem]) ?_
  intro i hi
  simp [go_sem]
  refine ⟨fun h => ?_, fun h => ?_⟩ <;> simp at h
  · have hi2 : i < (marksS p k).length := by simpa using h
    have t1 := cP_take h
    have t2 := cP_le p (i + 1)
    have hl2 := hr _ (List.getElem_mem h)
    have e1 := marksS_at h k
    have cH := heldInt64S_c (marks p[i].2.length (k + cP (p.take i) + 1)) (k + cP (p.take i) + 1) (by omega) (by simp [marks]; omega)
    have hml : (marks p[i].2.length (k + cP (p.take i) + 1)).length = p[i].2.length := by simp [marks]
    have hh : held (marks p[i].2.length (k + cP (p.take i) + 1)) (k + cP (p.take i) + 1) = k + cP (p.take i) + 1 + p[i].2.length := held_mark _ _
    rw [hh] at cH
    have hD := mons_drop hi2
    have hD1 := mons_drop1 hi2
    rw [e1] at hD hD1
    generalize (marks p[i].2.length (k + cP (p.take i) + 1)) = M at *
    generalize p[i].2.length = rl at *
    have hn : ¬ marksS p k = [] := fun e => by rw [e] at hi2; simp at hi2
    simp [go_sem, hD, hD1]
    refine ⟨⟨h, hn⟩, ?_⟩
    refine ⟨⟨by omega, by omega⟩, ⟨h, hn⟩, ?_⟩
    refine CallVC.of (cH) (by decide) ?_
    simp [go_sem]
    have p1 : ¬ (k + (cP (p.take i) : Int) + 1 + rl < 0) := by omega
    simp [go_sem, p1]
    exact ⟨by omega, i + 1, by omega, by omega, Off_reset _ _ _ (by simp), by omega, by omega⟩
  · simp [go_sem]
    rw [List.take_of_length_le h]
theorem marksP_app : ∀ (f g : List (List Mon)) (k : Int), marksP (f ++ g) k = marksP f k ++ marksP g (k + sumC cP f)
  | [], g, k => by simp [marksP, sumC]
  | q :: f, g, k => by
    have e : k + (cP q : Int) + sumC cP f = k + sumC cP (q :: f) := by simp [sumC]; omega
    simp [marksP, marksP_app f g, e]
theorem heldMonomialSS_c (f : List (List Mon)) (k : Int) (hl : f.length ≤ 1048576) (hr : ∀ p ∈ f, p.length ≤ 1048576 ∧ ∀ m ∈ p, m.2.length ≤ 1048576) (h0 : 0 ≤ k) (h1 : k + sumC cP f ≤ 9223372036854775807) :
    Con Tryz.prog 88 [.sl f.length (prt (marksP f k)), .int k] (.int (k + sumC cP f)) := by
  refine con_of_vc Tryz.mixed ⟨6, [], [], []⟩ Tryz.func88 (by decide) rfl (by simp) (by decide) (by simp [freshOK, freshL, go_sem]) ?_
  rw [Tryz.ntmps88]
  simp [go_sem]
  refine loop_inv (1 :: 4 :: 5 :: List.range' 6 14) (fun i : Nat => [(1, .int (k + sumC cP (f.take i))), (5, .int i)]) (fun i => i ≤ f.length) (fun i => f.length - i) 0 (by simp) (by simp [go_sem, sumC]) (by simp [go_sem]) ?_
  intro i hi
  simp [go_sem]
  refine ⟨fun h => ?_, fun h => ?_⟩ <;> simp at h
  · have hi2 : i < (marksP f k).length := by simpa using h
    have t1 := sumC_take cP h
    have t2 := sumC_le cP f (i + 1)
    have hm := hr _ (List.getElem_mem h)
    have e1 : (marksP f k)[i]?.getD [] = marksS f[i] (k + sumC cP (f.take i)) := by
      have hs : marksP f k = marksP (f.take i) k ++ marksP (f.drop i) (k + sumC cP (f.take i)) := by rw [← marksP_app, List.take_append_drop]
      rw [hs, List.getElem?_append_right (by simp; omega), List.drop_eq_getElem_cons h]
      simp [marksP, Nat.min_eq_left hi]
    have cH := heldMonomialS_c f[i] (k + sumC cP (f.take i)) hm.1 hm.2 (by omega) (by omega)
    have hml : (marksS f[i] (k + sumC cP (f.take i))).length = f[i].length := by simp
    generalize marksS f[i] (k + sumC cP (f.take i)) = M at *
    generalize cP f[i] = rl at *
    rw [← hml] at cH
    simp [go_sem, prt_drop hi2, e1]
    refine ⟨⟨h, fun e => by rw [e] at hi2; simp at hi2⟩, ?_⟩
    refine CallVC.of (cH) (by decide) ?_
    simp [go_sem]
    have p1 : ¬ (k + (sumC cP (f.take i) : Int) + rl < 0) := by omega
    simp [go_sem, p1]
    exact ⟨by omega, i + 1, by omega, by omega, Off_reset _ _ _ (by simp), by omega, by omega⟩
  · simp [go_sem]
    rw [List.take_of_length_le h]
theorem heldField_c (z : Int) (f : List (List Mon)) (k : Int) (hl : f.length ≤ 1048576) (hr : ∀ p ∈ f, p.length ≤ 1048576 ∧ ∀ m ∈ p, m.2.length ≤ 1048576) (h0 : 0 ≤ k) (h1 : k + sumC cP f ≤ 9223372036854775807) :
    Con Tryz.prog 33 [.agg [.int z, .sl f.length (prt (marksP f k))], .int k] (.int (k + sumC cP f)) := by
  refine con_of_vc Tryz.mixed ⟨5, [], [], []⟩ Tryz.func33 (by decide) rfl (by simp) (by decide) (by simp [freshOK, freshL, go_sem]) ?_
  rw [Tryz.ntmps33]
  simp [go_sem]
  refine CallVC.of (heldMonomialSS_c f k hl hr h0 h1) (by decide) ?_
  simp [go_sem]
  have p1 : ¬ (k + (sumC cP f : Int) < 0) := by omega
  simp [go_sem, p1]
end Go.Proofs.YtoeikpioonlmfaaGreat


namespace Go.Proofs.YtoeikpioonlmfaaGreat
open Go.Abs
set_option linter.unusedSectionVars false
set_option linter.unusedVariables false
set_option linter.unusedSimpArgs false
set_option maxHeartbeats 1000000
theorem nF {P : Program} {f : FuncId} {args : List AV} {x z : AV} (e : TypeId) (h : Con P f args (.tup [.agg [z, .val (.slice none 0 0)], x])) : Con P f args (.tup [.agg [z, .own e 0 []], x]) := by
  refine ⟨h.1, fun w vs hl ha => (h.2 w vs hl ha).mono ?_⟩
  rintro e' w' ⟨v, os, he, hb, hr, hn, ho⟩
  refine ⟨v, os, he, hb, fun tm oss => ?_, hn, ho⟩
  have := hr tm oss
  generalize hc : AV.tup [.agg [z, .val (.slice none 0 0)], x] = c at this
  cases this with
  | cell c v os h => subst hc; cases h
  | tup cs' vs os hl h =>
    injection hc with hc; subst hc
    refine .tup _ _ _ hl ?_
    cases h with
    | cons _ v1 o1 _ vs1 o2 k1 k2 =>
      refine .cons _ _ _ _ _ _ ?_ k2
      generalize hc2 : AV.agg [z, .val (.slice none 0 0)] = c2 at k1
      cases k1 with
      | cell c v os h => subst hc2; cases h
      | agg cs2 vs2 os2 hl2 h2 =>
        injection hc2 with hc2; subst hc2
        exact .agg _ _ _ hl2 ((WkL.same _ _ _ (.own e _ _ .nil)).rep h2)
      | _ => simp at hc2
  | _ => simp at hc
theorem partSrt {z : Int} {p : List Mon} (h : partB z p = true) : Srt p ∧ Nzl p := by
  refine ⟨?_, fun m hm => ?_⟩
  · unfold Srt
    rw [List.pairwise_iff_getElem]
    intro i j hi hj hij
    have := chain_lt h hij hj
    simpa [hi, hj] using this
  · have := partB_mem h hm
    exact ⟨this.lo, this.hi⟩
end Go.Proofs.YtoeikpioonlmfaaGreat


namespace Go.Proofs.YtoeikpioonlmfaaGreat
open Go.Abs
set_option linter.unusedSectionVars false
set_option linter.unusedVariables false
set_option linter.unusedSimpArgs false
set_option maxHeartbeats 1000000
theorem mps_frz : ∀ cs : List (Key → Option Int), frzL (cs.map AV.mp) = cs.map AV.fmp
  | [] => rfl
  | c :: cs => by rw [List.map_cons, frzL, mps_frz cs]; rfl
end Go.Proofs.YtoeikpioonlmfaaGreat


namespace Go.Proofs.YtoeikpioonlmfaaGreat
open Go.Abs
set_option linter.unusedSectionVars false
set_option linter.unusedVariables false
set_option linter.unusedSimpArgs false
set_option maxHeartbeats 1000000
end Go.Proofs.YtoeikpioonlmfaaGreat


namespace Go.Proofs.YtoeikpioonlmfaaGreat
open Go.Abs
set_option linter.unusedSectionVars false
set_option linter.unusedVariables false
set_option linter.unusedSimpArgs false
set_option maxHeartbeats 1000000
@[go_sem] theorem klW_bor (W : List Nat) (s : Nat) (p : List Nat) : kl W (.bor s p) = if W.contains s then .any else .bor s p := by rw [kl]
@[go_sem] theorem klW_ptr (W : List Nat) (s : Nat) (p : List Nat) (o : Nat) : kl W (.ptr s p o) = if W.contains s then .any else .ptr s p o := by rw [kl]
theorem omat_get {A : List (List Int)} {k : Nat} (h : k < A.length) : (omat A)[k]? = some (.own 2 (A[k]?.getD []).length (avs (A[k]?.getD []))) := by simp [omat, h]
end Go.Proofs.YtoeikpioonlmfaaGreat


namespace Go.Proofs.YtoeikpioonlmfaaGreat
open Go.Abs
set_option linter.unusedSectionVars false
set_option linter.unusedVariables false
set_option linter.unusedSimpArgs false
set_option maxHeartbeats 1000000
end Go.Proofs.YtoeikpioonlmfaaGreat


namespace Go.Proofs.YtoeikpioonlmfaaGreat
open Go.Abs
set_option linter.unusedSectionVars false
set_option linter.unusedVariables false
set_option linter.unusedSimpArgs false
set_option maxHeartbeats 1000000
end Go.Proofs.YtoeikpioonlmfaaGreat


namespace Go.Proofs.YtoeikpioonlmfaaGreat
open Go.Abs
set_option linter.unusedSectionVars false
set_option linter.unusedVariables false
set_option linter.unusedSimpArgs false
set_option maxHeartbeats 1000000
end Go.Proofs.YtoeikpioonlmfaaGreat


namespace Go.Proofs.YtoeikpioonlmfaaGreat
open Go.Abs
set_option linter.unusedSectionVars false
set_option linter.unusedVariables false
set_option linter.unusedSimpArgs false
set_option maxHeartbeats 4000000
end Go.Proofs.YtoeikpioonlmfaaGreat


namespace Go.Proofs.YtoeikpioonlmfaaGreat
set_option linter.unusedSectionVars false
set_option linter.unusedVariables false
set_option linter.unusedSimpArgs false
def Lv (t : List Int) : Prop := 0 < t.length ∧ t[0]?.getD 0 = 0 ∧ ∀ j, 0 < j → j < t.length → 1 ≤ t[j]?.getD 0 ∧ t[j]?.getD 0 ≤ t[j - 1]?.getD 0 + 1
theorem Lv.le {t : List Int} (h : Lv t) : ∀ j, j < t.length → 0 ≤ t[j]?.getD 0 ∧ t[j]?.getD 0 ≤ j
  | 0, _ => by rw [h.2.1]; omega
  | j + 1, hj => by
    have h1 := h.le j (by omega)
    have h2 := h.2.2 (j + 1) (by omega) hj
    rw [Nat.add_sub_cancel] at h2
    omega
end Go.Proofs.YtoeikpioonlmfaaGreat


namespace Go.Proofs.YtoeikpioonlmfaaGreat
open Go.Abs
set_option linter.unusedSectionVars false
set_option linter.unusedVariables false
set_option linter.unusedSimpArgs false
set_option maxHeartbeats 4000000
end Go.Proofs.YtoeikpioonlmfaaGreat


namespace Go.Proofs.YtoeikpioonlmfaaGreat
open Go.Abs
set_option linter.unusedSectionVars false
set_option linter.unusedVariables false
set_option linter.unusedSimpArgs false
set_option maxHeartbeats 4000000
theorem omat_set (A : List (List Int)) (k : Nat) (l : List Int) : (omat A).set k (.own 2 l.length (avs l)) = omat (A.set k l) := by
  simp [omat, List.map_set]
end Go.Proofs.YtoeikpioonlmfaaGreat


namespace Go.Proofs.YtoeikpioonlmfaaGreat
open Go.Abs
set_option linter.unusedSectionVars false
set_option linter.unusedVariables false
set_option linter.unusedSimpArgs false
set_option maxHeartbeats 4000000
theorem omat_take (A : List (List Int)) (i : Nat) (h : i < A.length) : omat (A.take (i + 1)) = omat (A.take i) ++ [.own 2 (A[i]?.getD []).length (avs (A[i]?.getD []))] := by
  rw [List.take_add_one, omat_app]; simp [h, omat]
end Go.Proofs.YtoeikpioonlmfaaGreat


namespace Go.Proofs.YtoeikpioonlmfaaGreat
open Go.Abs
set_option linter.unusedSectionVars false
set_option linter.unusedVariables false
set_option linter.unusedSimpArgs false
set_option maxHeartbeats 1000000
theorem omat_range_succ (g : Nat → List Int) (i : Nat) : omat ((List.range (i + 1)).map g) = omat ((List.range i).map g) ++ [.own 2 (g i).length (avs (g i))] := by
  rw [List.range_succ, List.map_append, omat_app]; rfl
theorem cloneRows_c (a : List (List Int)) (hl : a.length ≤ 1048576) (hr : ∀ r ∈ a, r.length ≤ 1048576) :
    Con Tryz.prog 204 [.sl a.length (mat a)] (.own 35 a.length (omat a)) := by
  refine con_of_vc Tryz.mixed ⟨6, [], [], []⟩ Tryz.func204 (by decide) rfl (by simp) (by decide) (by simp [freshOK, freshL, go_sem]) ?_
  rw [Tryz.ntmps204]
  simp [go_sem]
  refine loop_inv (3 :: 5 :: List.range' 9 10) (fun i : Nat => [(3, .own 35 i (omat (a.take i))), (9, .int i)]) (fun i => i ≤ a.length) (fun i => a.length - i) 0 (by simp) (by simp [go_sem, omat_nil]) (by simp [go_sem]) ?_
  intro i hi
  simp [go_sem]
  refine ⟨fun h => ?_, fun h => ?_⟩ <;> simp at h
  · simp [go_sem, mat_drop h]
    refine ⟨⟨h, by rintro rfl; simp at h⟩, ?_⟩
    refine CallVC.of (Clone_c (a[i]?.getD []) (hr _ (by simp [h]))) (by decide) ?_
    simp [go_sem]
    have ht := omat_take a i h
    refine ⟨⟨by omega, by omega, by omega⟩, by omega, i + 1, by omega, by omega, Off_reset _ _ _ (by simp), by rw [ht]; exact ⟨rfl, rfl⟩, by omega⟩
  · have e : i = a.length := by omega
    subst e
    simp [go_sem]
theorem l01Own2_c (a : List (List Int)) (hl : a.length ≤ 1048576) (hr : ∀ r ∈ a, r.length ≤ 1048576) :
    Con Tryz.prog 201 [.sl a.length (mat a)] (.own 35 a.length (omat a)) := by
  refine con_of_vc Tryz.mixed ⟨5, [], [], []⟩ Tryz.func201 (by decide) rfl (by simp) (by decide) (by simp [freshOK, freshL, go_sem]) ?_
  rw [Tryz.ntmps201]
  simp [go_sem]
  refine loop_inv (3 :: 4 :: List.range' 6 14) (fun i : Nat => [(3, .own 35 i (omat (a.take i))), (4, .int i)]) (fun i => i ≤ a.length) (fun i => a.length - i) 0 (by simp) (by simp [go_sem, omat_nil]) (by simp [go_sem]) ?_
  intro i hi
  simp [go_sem]
  refine ⟨fun h => ?_, fun h => ?_⟩ <;> simp at h
  · simp [go_sem, mat_drop h]
    refine ⟨⟨h, by rintro rfl; simp at h⟩, ?_⟩
    refine CallVC.of (l01Own_c (a[i]?.getD []) (by have := hr _ (show a[i]?.getD [] ∈ a by simp [h]); omega)) (by decide) ?_
    simp [go_sem]
    have ht := omat_take a i h
    refine ⟨⟨by omega, by omega, by omega⟩, by omega, i + 1, by omega, by omega, Off_reset _ _ _ (by simp), by rw [ht]; exact ⟨rfl, rfl⟩, by omega⟩
  · have e : i = a.length := by omega
    subst e
    simp [go_sem]
end Go.Proofs.YtoeikpioonlmfaaGreat


namespace Go.Proofs.YtoeikpioonlmfaaGreat
open Go.Abs
set_option linter.unusedSectionVars false
set_option linter.unusedVariables false
set_option linter.unusedSimpArgs false
set_option maxHeartbeats 1000000
end Go.Proofs.YtoeikpioonlmfaaGreat


namespace Go.Proofs.YtoeikpioonlmfaaGreat
open Go.Abs
set_option linter.unusedSectionVars false
set_option linter.unusedVariables false
set_option linter.unusedSimpArgs false
set_option maxHeartbeats 1000000
end Go.Proofs.YtoeikpioonlmfaaGreat


namespace Go.Proofs.YtoeikpioonlmfaaGreat
open Go.Abs
set_option linter.unusedSectionVars false
set_option linter.unusedVariables false
set_option linter.unusedSimpArgs false
set_option maxHeartbeats 1000000
end Go.Proofs.YtoeikpioonlmfaaGreat


namespace Go.Proofs.YtoeikpioonlmfaaGreat
open Go.Abs
set_option linter.unusedSectionVars false
set_option linter.unusedVariables false
set_option linter.unusedSimpArgs false
set_option maxHeartbeats 1000000
end Go.Proofs.YtoeikpioonlmfaaGreat


namespace Go.Proofs.YtoeikpioonlmfaaGreat
open Go.Abs
set_option linter.unusedSectionVars false
set_option linter.unusedVariables false
set_option linter.unusedSimpArgs false
set_option maxHeartbeats 1000000
end Go.Proofs.YtoeikpioonlmfaaGreat


namespace Go.Proofs.YtoeikpioonlmfaaGreat
open Go.Abs
set_option linter.unusedSectionVars false
set_option linter.unusedVariables false
set_option linter.unusedSimpArgs false
set_option maxHeartbeats 1000000
end Go.Proofs.YtoeikpioonlmfaaGreat


namespace Go.Proofs.YtoeikpioonlmfaaGreat
open Go.Abs
set_option linter.unusedSectionVars false
set_option linter.unusedVariables false
set_option linter.unusedSimpArgs false
set_option maxHeartbeats 1000000
end Go.Proofs.YtoeikpioonlmfaaGreat


namespace Go.Proofs.YtoeikpioonlmfaaGreat
open Go.Abs
set_option linter.unusedSectionVars false
set_option linter.unusedVariables false
set_option linter.unusedSimpArgs false
set_option maxHeartbeats 1000000
end Go.Proofs.YtoeikpioonlmfaaGreat


namespace Go.Proofs.YtoeikpioonlmfaaGreat
open Go.Abs
set_option linter.unusedSectionVars false
set_option linter.unusedVariables false
set_option linter.unusedSimpArgs false
set_option maxHeartbeats 1000000
end Go.Proofs.YtoeikpioonlmfaaGreat


namespace Go.Proofs.YtoeikpioonlmfaaGreat
open Go.Abs
set_option linter.unusedSectionVars false
set_option linter.unusedVariables false
set_option linter.unusedSimpArgs false
set_option maxHeartbeats 1000000
end Go.Proofs.YtoeikpioonlmfaaGreat


namespace Go.Proofs.YtoeikpioonlmfaaGreat
open Go.Abs
set_option linter.unusedSectionVars false
set_option linter.unusedVariables false
set_option linter.unusedSimpArgs false
set_option maxHeartbeats 1000000
end Go.Proofs.YtoeikpioonlmfaaGreat


namespace Go.Proofs.YtoeikpioonlmfaaGreat
open Go.Abs
set_option linter.unusedSectionVars false
set_option linter.unusedVariables false
set_option linter.unusedSimpArgs false
set_option maxHeartbeats 1000000
end Go.Proofs.YtoeikpioonlmfaaGreat


namespace Go.Proofs.YtoeikpioonlmfaaGreat
open Go.Abs
set_option linter.unusedSectionVars false
set_option linter.unusedVariables false
set_option linter.unusedSimpArgs false
set_option maxHeartbeats 1000000
theorem FieldOk.wok {z : Int} {f : List (List Mon)} (hf : FieldOk z f) : ∀ F ∈ f, ∀ m ∈ F, WOk f.length 3 m := fun F hF m hm => by
  have h := partB_mem (hf.part F hF) hm
  have h1 := h.lo
  have h2 := h.hi
  have h3 := h.len
  have h4 := hf.len
  exact ⟨⟨by omega, by omega⟩, by omega, h.pw⟩
theorem oprt_get {T : List (List Mon)} {k : Nat} (h : k < T.length) : (oprt T)[k]? = some (.own 97 (T[k]?.getD []).length (omons (T[k]?.getD []))) := by simp [oprt, h]
end Go.Proofs.YtoeikpioonlmfaaGreat


namespace Go.Proofs.YtoeikpioonlmfaaGreat
open Go.Abs
set_option linter.unusedSectionVars false
set_option linter.unusedVariables false
set_option linter.unusedSimpArgs false
set_option maxHeartbeats 1000000
def subK (a b : Key) : Key := (a.1 - b.1, a.2.1 - b.2.1, a.2.2 - b.2.2)
theorem addK_iff {K a b : Key} : K = addK a b ↔ subK K a = b := by
  obtain ⟨k0, k1, k2⟩ := K
  obtain ⟨a0, a1, a2⟩ := a
  obtain ⟨b0, b1, b2⟩ := b
  simp only [addK, subK, Prod.mk.injEq]
  omega
theorem coef_sub {α : Type} (K a : Key) (x : Int) (key : α → Key) (num : α → Int) (E : List α) : sumI (fun d => if K = addK a (key d) then x * num d else 0) E = x * coef key num E (subK K a) := by
  unfold coef
  rw [← sumI_mul]
  refine sumI_congr (fun d _ => ?_)
  by_cases h : subK K a = key d
  · rw [if_pos (addK_iff.2 h), if_pos h]
  · rw [if_neg (fun e => h (addK_iff.1 e)), if_neg h, Int.mul_zero]
theorem enum_exists : ∀ (L : List Key) (c : Key → Option Int), (∀ k x, c k = some x → k ∈ L) → ∃ es, Enum c es
  | [], c, h => ⟨[], .nil, by simp, fun k _ => by
      cases hc : c k with
      | none => rfl
      | some x => exact absurd (h k x hc) (by simp)⟩
  | a :: L, c, h => by
    obtain ⟨es, he⟩ := enum_exists L (fun k => if k = a then none else c k) (fun k x hk => by
      by_cases e : k = a
      · simp [e] at hk
      · simp [e] at hk
        rcases List.mem_cons.1 (h k x hk) with h1 | h1
        · exact absurd h1 e
        · exact h1)
    have hne : ∀ p ∈ es, p.1 ≠ a := fun p hp e => by
      have := he.val p hp
      simp [e] at this
    cases hc : c a with
    | none =>
      refine ⟨es, he.nd, fun p hp => ?_, fun k hk => ?_⟩
      · have := he.val p hp
        simpa [hne p hp] using this
      · by_cases e : k = a
        · rw [e]; exact hc
        · have := he.out k hk
          simpa [e] using this
    | some x =>
      refine ⟨(a, x) :: es, List.pairwise_cons.2 ⟨fun p hp e => hne p hp e.symm, he.nd⟩, fun p hp => ?_, fun k hk => ?_⟩
      · rcases List.mem_cons.1 hp with rfl | hp
        · exact hc
        · have := he.val p hp
          simpa [hne p hp] using this
      · have e : ¬ k = a := fun e => hk (a, x) (by simp) e.symm
        have := he.out k (fun p hp => hk p (by simp [hp]))
        simpa [e] using this
open Classical in
noncomputable def enE (c : Key → Option Int) : List (Key × Int) := if h : ∃ es, Enum c es then h.choose else []
theorem enE_is {c : Key → Option Int} (h : ∃ es, Enum c es) : Enum c (enE c) := by
  unfold enE
  rw [dif_pos h]
  exact h.choose_spec
def degB (p : List Mon) : Bool := p.all fun m => decide (degL m.2 0 ≤ 3)
theorem srt_at {p : List Mon} (h : Srt p) {j : Nat} (h0 : 0 < j) (hj : j < p.length) : ltL (p[j - 1]?.getD (0, [])).2 (p[j]?.getD (0, [])).2 = true := by
  have h1 := List.pairwise_iff_getElem.1 h (j - 1) j (by omega) hj (by omega)
  simpa [hj, show j - 1 < p.length by omega] using h1
theorem partB_deg {z : Int} {p : List Mon} (hw : ∀ m ∈ p, (m.2.length : Int) = z) (hs : Srt p) (hz : Nzl p) : partB z p = degB p := by
  cases hd : degB p with
  | true =>
    refine partB_yes (fun j hj => ?_)
    have hm : p[j]?.getD (0, []) ∈ p := memD _ hj
    have h1 := hz _ hm
    have h2 := hw _ hm
    have h3 := List.all_eq_true.1 hd _ hm
    simp only [decide_eq_true_eq] at h3
    unfold atB monB
    rw [decide_eq_true h1, decide_eq_true h2, decide_eq_true h3]
    by_cases h0 : j = 0
    · rw [decide_eq_true h0]; rfl
    · rw [decide_eq_false h0, srt_at hs (by omega) hj]; rfl
  | false =>
    obtain ⟨m, hm, h⟩ := List.all_eq_false.1 hd
    obtain ⟨j, hj, rfl⟩ := List.getElem_of_mem hm
    refine partB_no hj ?_
    unfold atB monB
    simp at h
    simp [hj]
    omega
end Go.Proofs.YtoeikpioonlmfaaGreat


namespace Go.Proofs.YtoeikpioonlmfaaGreat
open Go.Abs
set_option linter.unusedSectionVars false
set_option linter.unusedVariables false
set_option linter.unusedSimpArgs false
set_option maxHeartbeats 1000000
def Byt (c : List Int) : Prop := c.length ≤ 4096 ∧ ∀ x ∈ c, 0 ≤ x ∧ x ≤ 255
theorem Byt.get {c : List Int} (h : Byt c) (k : Nat) : 0 ≤ c[k]?.getD 0 ∧ c[k]?.getD 0 ≤ 255 := by
  rcases Nat.lt_or_ge k c.length with hk | hk
  · simp [hk]; exact h.2 _ (List.getElem_mem hk)
  · simp [hk]
end Go.Proofs.YtoeikpioonlmfaaGreat


namespace Go.Proofs.YtoeikpioonlmfaaGreat
open Go.Abs
set_option linter.unusedSectionVars false
set_option linter.unusedVariables false
set_option linter.unusedSimpArgs false
set_option maxHeartbeats 1000000
def DrP (n : Nat) (p : List Mon) : Prop := p.length ≤ 3 ∧ ∀ m ∈ p, WOk n 3 m
def DrS (z : Int) (f : List (List Mon)) : Prop := -1 ≤ z ∧ z ≤ 4 ∧ f.length ≤ 4 ∧ ∀ p ∈ f, p.length ≤ 4 ∧ ∀ m ∈ p, m.2.length ≤ 3
theorem DrS.of {n : Nat} {f : List (List Mon)} (hn : n ≤ 3) (hl : f.length ≤ 3) (h : ∀ p ∈ f, DrP n p) {z : Int} (h1 : -1 ≤ z) (h2 : z ≤ 4) : DrS z f :=
  ⟨h1, h2, by omega, fun p hp => ⟨by have := (h p hp).1; omega, fun m hm => by have := ((h p hp).2 m hm).len; omega⟩⟩
end Go.Proofs.YtoeikpioonlmfaaGreat


namespace Go.Proofs.YtoeikpioonlmfaaGreat
open Go.Abs
set_option linter.unusedSectionVars false
set_option linter.unusedVariables false
set_option linter.unusedSimpArgs false
set_option maxHeartbeats 1000000
end Go.Proofs.YtoeikpioonlmfaaGreat


namespace Go.Proofs.YtoeikpioonlmfaaGreat
open Go.Abs
set_option linter.unusedSectionVars false
set_option linter.unusedVariables false
set_option linter.unusedSimpArgs false
set_option maxHeartbeats 4000000
end Go.Proofs.YtoeikpioonlmfaaGreat

