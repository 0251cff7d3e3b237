/- What comes in at the statements of this part: tableaus, vectors, matrices. -/
import Derived.Test.YtdhnnpohpfjaiaaRows
import Derived.WalkKit
import Derived.ProofKit
import Derived.OpenShut
import Derived.Test.YtdhnnpohpfjaiaaAbsQ
import Derived.Test.YtdhnnpohpfjaiaaC5
namespace Go.Proofs.Ytdhnnpohpfjaiaa
open Go.ChangeShapes Go.WideShapes Go.ChangeAt Go.RowKit Go.Abs Go.Deep
set_option linter.unusedVariables false
section
variable {H : Type} {enc : TypeId × Value → H} {w : World} {sp : Nat → Bool} {held : Bool} {base : Nat}
theorem kids : Kids Try.prog (· < Try.prog.types.size) := kids_rows (by kernel_rfl) (by kernel_rfl)
theorem full : ∀ t e, t < Try.prog.types.size → Try.prog.underlying t = some (.slice e) → 0 < Try.prog.cellsOf e := slices_full_of Try.prog (by kernel_rfl)

theorem flat1 {α β : Type} (g : α → β) : ∀ qs : List α, qs.flatMap (fun a => [g a]) = qs.map g
  | [] => rfl
  | a :: qs => by rw [List.flatMap_cons, flat1 g qs]; rfl
theorem open_vec {n : Nat} {cs : List Value} {x : DataW H × List MemPlace} (h : DataW.trod enc Try.prog w base sp held n 22 cs = some x) :
    ∃ xs : List Int, (∀ z ∈ xs, (Lit.int .i64 z).wf = true) ∧ xs.length ≤ 9223372036854775807 ∧ RepL Try.prog w (fun b => b < w.heap.size) [.sl xs.length (avs xs)] cs [] ∧ cs.length = 1 := by
  obtain ⟨qs, h1, h2, h3, h4⟩ := open_sl (f := fun z : Int => [AV.int z]) (Good := fun z => (Lit.int .i64 z).wf = true) Try.underlying22 (s := 1) (by kernel_rfl) (by decide) (fun _ => rfl)
    (fun n cs y hy => by obtain ⟨z, k1, k2, _⟩ := open_i Try.underlying2 hy; exact ⟨z, k1, k2⟩) h
  exact ⟨qs, h1, h2, by rw [flat1] at h3; exact h3, h4⟩
theorem open_mat {n : Nat} {cs : List Value} {x : DataW H × List MemPlace} (h : DataW.trod enc Try.prog w base sp held n 31 cs = some x) :
    ∃ xs : List (List Int), (∀ r ∈ xs, (∀ z ∈ r, (Lit.int .i64 z).wf = true) ∧ r.length ≤ 9223372036854775807) ∧ xs.length ≤ 9223372036854775807 ∧ RepL Try.prog w (fun b => b < w.heap.size) [.sl xs.length (mat xs)] cs [] ∧ cs.length = 1 := by
  obtain ⟨qs, h1, h2, h3, h4⟩ := open_sl (f := fun r : List Int => [AV.sl r.length (avs r)]) (Good := fun r => (∀ z ∈ r, (Lit.int .i64 z).wf = true) ∧ r.length ≤ 9223372036854775807) Try.underlying31 (s := 1) (by kernel_rfl) (by decide) (fun _ => rfl)
    (fun n cs y hy => by obtain ⟨z, k1, k2, k3, _⟩ := open_vec hy; exact ⟨z, ⟨k1, k2⟩, k3⟩) h
  exact ⟨qs, h1, h2, by rw [flat1] at h3; exact h3, h4⟩
/-- A number's worth of cells of the tuple is what the walk takes. -/
theorem rep_one {F : Nat → Prop} {tm : Nat → Value} {oss : Nat → List Nat} {c : AV} {v : Value} (h : RepL Try.prog w F [c] [v] []) : RepT Try.prog w F tm oss c v [] := .cell _ _ _ (RepL.one h)
set_option maxRecDepth 100000 in
theorem repV {F : Nat → Prop} {tm : Nat → Value} {oss : Nat → List Nat} {t e : TypeId} {v : Value} {c : AV} {r : Reach} {b0 : Nat} (ht : Try.prog.underlying t = some (.slice e)) (hv : Value.okWide Try.prog w r b0 t v) (h : RepL Try.prog w F [c] v.cells.toList []) :
    RepT Try.prog w F tm oss c v [] := by
  have hc : v.cells.toList = [v] := by
    simp only [Value.okWide, ht] at hv
    cases v <;> simp_all [Value.cells, Cell.okWide, Cell.ok]
  rw [hc] at h
  exact rep_one h
set_option maxRecDepth 100000 in
/-- A tableau. -/
theorem open_tabl {r : Reach} {b0 : Nat} {v : Value} {d : DataW H} {p : List MemPlace} (hv : Value.okWide Try.prog w r b0 33 v) (h : DataW.Trod enc Try.prog w base sp held 33 v d p) :
    ∃ (xs : List (List Int)) (b : List Int), (∀ r ∈ xs, (∀ z ∈ r, (Lit.int .i64 z).wf = true) ∧ r.length ≤ 9223372036854775807) ∧ xs.length ≤ 9223372036854775807 ∧ (∀ z ∈ b, (Lit.int .i64 z).wf = true) ∧ b.length ≤ 9223372036854775807 ∧
      ∀ tm oss, RepT Try.prog w (fun b => b < w.heap.size) tm oss (.agg [.sl xs.length (mat xs), .sl b.length (avs b)]) v [] := by
  obtain ⟨v0, v1, y0, y1, n, rfl, rfl, rfl, k0, k1⟩ := Joins.open_agg2 Try.underlying33 (by kernel_rfl) (by kernel_rfl) hv h
  obtain ⟨xs, a1, a2, a3, _⟩ := open_mat k0
  obtain ⟨b, b1, b2, b3, _⟩ := open_vec k1
  exact ⟨xs, b, a1, a2, b1, b2, fun tm oss => .agg _ [v0, v1] [] rfl (.cons _ _ [] _ _ [] (rep_one a3) (.cons _ _ [] _ _ [] (rep_one b3) (.nil _)))⟩
end
end Go.Proofs.Ytdhnnpohpfjaiaa
