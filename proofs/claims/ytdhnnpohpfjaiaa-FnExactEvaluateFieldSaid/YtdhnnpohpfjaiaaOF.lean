/- What comes in at the statements of this part: fields. -/
import Derived.Test.YtdhnnpohpfjaiaaO
import Derived.Test.YtdhnnpohpfjaiaaF0
namespace Go.Proofs.Ytdhnnpohpfjaiaa
open Go.ChangeShapes Go.WideShapes Go.ChangeAt Go.RowKit Go.Abs Go.Deep
set_option linter.unusedVariables false
section
variable {H : Type} {enc : TypeId × Value → H} {w : World} {sp : Nat → Bool} {held : Bool} {base : Nat}
set_option maxRecDepth 100000 in
theorem open_mons {n : Nat} {cs : List Value} {x : DataW H × List MemPlace} (h : DataW.trod enc Try.prog w base sp held n 106 cs = some x) :
    ∃ p : List Mon, (∀ m ∈ p, m.2.length ≤ 9223372036854775807) ∧ p.length ≤ 9223372036854775807 ∧ RepL Try.prog w (fun b => b < w.heap.size) [.sl p.length (mons p)] cs [] ∧ cs.length = 1 :=
  open_sl (f := fun m : Mon => [AV.int m.1, .sl m.2.length (avs m.2)]) (Good := fun m => m.2.length ≤ 9223372036854775807) Try.underlying106 (s := 2) (by kernel_rfl) (by decide) (fun _ => rfl)
    (fun n cs y hy => by
      obtain ⟨c0, c1, y0, y1, m, rfl, k0, k1⟩ := open_st2 Try.underlying127 (by kernel_rfl) (by kernel_rfl) hy
      obtain ⟨z, _, a1, _⟩ := open_i Try.underlying2 (F := fun b => b < w.heap.size) k0
      obtain ⟨xs, _, b1, b2, _⟩ := open_vec k1
      exact ⟨(z, xs), b1, RepL.two a1 b2⟩) h
set_option maxRecDepth 100000 in
theorem open_prt {n : Nat} {cs : List Value} {x : DataW H × List MemPlace} (h : DataW.trod enc Try.prog w base sp held n 47 cs = some x) :
    ∃ f : List (List Mon), Fit f ∧ RepL Try.prog w (fun b => b < w.heap.size) [.sl f.length (prt f)] cs [] ∧ cs.length = 1 := by
  obtain ⟨qs, h1, h2, h3, h4⟩ := open_sl (f := fun p : List Mon => [AV.sl p.length (mons p)]) (Good := fun p => p.length ≤ 9223372036854775807 ∧ ∀ q ∈ p, q.2.length ≤ 9223372036854775807) Try.underlying47 (s := 1) (by kernel_rfl) (by decide) (fun _ => rfl)
    (fun n cs y hy => by
      obtain ⟨p, a1, a2, a3, _⟩ := open_mons hy
      exact ⟨p, ⟨a2, a1⟩, a3⟩) h
  exact ⟨qs, ⟨h2, h1⟩, by rw [flat1] at h3; exact h3, h4⟩
set_option maxRecDepth 100000 in
/-- A field. -/
theorem open_fld {r : Reach} {b0 : Nat} {v : Value} {d : DataW H} {p : List MemPlace} (hv : Value.okWide Try.prog w r b0 49 v) (h : DataW.Trod enc Try.prog w base sp held 49 v d p) :
    ∃ (z : Int) (f : List (List Mon)), Fit f ∧ ∀ tm oss, RepT Try.prog w (fun b => b < w.heap.size) tm oss (.agg [.int z, .sl f.length (prt f)]) v [] := by
  obtain ⟨v0, v1, y0, y1, n, rfl, rfl, rfl, k0, k1⟩ := Joins.open_agg2 Try.underlying49 (by kernel_rfl) (by kernel_rfl) hv h
  obtain ⟨z, _, a1, _⟩ := open_i Try.underlying2 (F := fun b => b < w.heap.size) k0
  obtain ⟨f, b1, b2, _⟩ := open_prt k1
  exact ⟨z, f, b1, fun tm oss => .agg _ [v0, v1] [] rfl (.cons _ _ [] _ _ [] (rep_one a1) (.cons _ _ [] _ _ [] (rep_one b2) (.nil _)))⟩
end
end Go.Proofs.Ytdhnnpohpfjaiaa
