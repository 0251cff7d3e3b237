/-
  No cell of these rows narrows 'for every input' (looked for: loops, veiled, ifaces, maps, wideKeys, modest, calm, conditions, laid).
  DERIVED. THE GIVEN ROWS OF THIS SEAT. 7 by the template 'for every input the law returns true; each argument reads behind the call as it read before'; 0 by the template 'total and deterministic' (their statements: YtdhnnpohpfjaiaaTotals.lean).
  GIVEN WITH THE SEED: the statements are not yours to turn. If you find one false, say at which input.
  Laid BY PROGRAM, IN A SANDBOX (cutbox-rows.mjs): the forced cells as the released guide's own fill.sh prints them over the translation 33175c0d852bb9b3… (all of the seat's roots in one cut). By AI agents, Wed Nov 11 2026. No macro, syntax, notation, axiom, sorry.
-/
import Derived.Test.YtdhnnpohpfjaiaaChecked
import GoSem.Claim
import GoSem.ClaimJoined
import GoSem.ClaimMapViews
import Derived.JoinedTies
import Derived.KernelRfl
namespace Go.Proofs.Ytdhnnpohpfjaiaa
/- THE CELL 'sum', in the pinned program and in every row, IS THE sha256 OF THE DUMP (.gsa) THAT YtdhnnpohpfjaiaaProg.lean LOADS. Nothing in Lean hashes anything: it is a label: what it is worth is what the hold of that sum in a sandbox is worth. -/
noncomputable def Try.pinned : Pinned := { name := "ytdhnnpohpfjaiaa", sum := "33175c0d852bb9b32c3f9f95b2e1388815fc269474d5b6c10800ffe837b8b21a", checked := Try.checked }
namespace Rows
def none {H : Type} : Left H := { results := [], args := [] }

/-- 'laws.FnExactTallTree': WHATEVER THE INPUT: true; the input reads as it did. -/
def fnExactTallTreeSpec : ChangeSpec := { name := "fnExactTallTree", fn := fun _ => fun
  | [d] => { results := [.lit (.bool true)], args := [d] }
  | _ => none }
def fnExactTallTreeRow : OpenClaim := { program := "ytdhnnpohpfjaiaa", sum := "33175c0d852bb9b32c3f9f95b2e1388815fc269474d5b6c10800ffe837b8b21a", func := "loop.example/g01100/laws.FnExactTallTree", spec := "fnExactTallTree", plainKeys := false, apart := false }
def FnExactTallTreeSaid : Prop := fnExactTallTreeRow.holds Try.pinned (OpenSpec.ofChange fnExactTallTreeSpec)

/-- ITS FALSE NEIGHBOUR: 'it returns false'. Refute it at one input. -/
def fnExactTallTreeWrong : ChangeSpec := { name := "fnExactTallTree", fn := fun _ => fun
  | [d] => { results := [.lit (.bool false)], args := [d] }
  | _ => none }
def FnExactTallTreeWrongFalsely : Prop := fnExactTallTreeRow.holds Try.pinned (OpenSpec.ofChange fnExactTallTreeWrong)

/-- 'laws.FnExactExponentialPade': WHATEVER THE INPUT: true; the input reads as it did. -/
def fnExactExponentialPadeSpec : ChangeSpec := { name := "fnExactExponentialPade", fn := fun _ => fun
  | [d1, d2] => { results := [.lit (.bool true)], args := [d1, d2] }
  | _ => none }
def fnExactExponentialPadeRow : OpenClaim := { program := "ytdhnnpohpfjaiaa", sum := "33175c0d852bb9b32c3f9f95b2e1388815fc269474d5b6c10800ffe837b8b21a", func := "loop.example/g01100/laws.FnExactExponentialPade", spec := "fnExactExponentialPade", plainKeys := false, apart := false }
def FnExactExponentialPadeSaid : Prop := fnExactExponentialPadeRow.holds Try.pinned (OpenSpec.ofChange fnExactExponentialPadeSpec)

/-- ITS FALSE NEIGHBOUR: 'it returns false'. Refute it at one input. -/
def fnExactExponentialPadeWrong : ChangeSpec := { name := "fnExactExponentialPade", fn := fun _ => fun
  | [d1, d2] => { results := [.lit (.bool false)], args := [d1, d2] }
  | _ => none }
def FnExactExponentialPadeWrongFalsely : Prop := fnExactExponentialPadeRow.holds Try.pinned (OpenSpec.ofChange fnExactExponentialPadeWrong)

/-- 'laws.FnExactStabilitySeries': WHATEVER THE INPUT: true; the input reads as it did. -/
def fnExactStabilitySeriesSpec : ChangeSpec := { name := "fnExactStabilitySeries", fn := fun _ => fun
  | [d1, d2] => { results := [.lit (.bool true)], args := [d1, d2] }
  | _ => none }
def fnExactStabilitySeriesRow : OpenClaim := { program := "ytdhnnpohpfjaiaa", sum := "33175c0d852bb9b32c3f9f95b2e1388815fc269474d5b6c10800ffe837b8b21a", func := "loop.example/g01100/laws.FnExactStabilitySeries", spec := "fnExactStabilitySeries", unfollowed := true, recurses := true, plainKeys := false, apart := false }
def FnExactStabilitySeriesSaid : Prop := fnExactStabilitySeriesRow.holds Try.pinned (OpenSpec.ofChange fnExactStabilitySeriesSpec)

/-- ITS FALSE NEIGHBOUR: 'it returns false'. Refute it at one input. -/
def fnExactStabilitySeriesWrong : ChangeSpec := { name := "fnExactStabilitySeries", fn := fun _ => fun
  | [d1, d2] => { results := [.lit (.bool false)], args := [d1, d2] }
  | _ => none }
def FnExactStabilitySeriesWrongFalsely : Prop := fnExactStabilitySeriesRow.holds Try.pinned (OpenSpec.ofChange fnExactStabilitySeriesWrong)

/-- 'laws.FnExactPadeOf': WHATEVER THE INPUT: true; the input reads as it did. -/
def fnExactPadeOfSpec : ChangeSpec := { name := "fnExactPadeOf", fn := fun _ => fun
  | [d1, d2, d3] => { results := [.lit (.bool true)], args := [d1, d2, d3] }
  | _ => none }
def fnExactPadeOfRow : OpenClaim := { program := "ytdhnnpohpfjaiaa", sum := "33175c0d852bb9b32c3f9f95b2e1388815fc269474d5b6c10800ffe837b8b21a", func := "loop.example/g01100/laws.FnExactPadeOf", spec := "fnExactPadeOf", unfollowed := true, recurses := true, plainKeys := false, apart := false }
def FnExactPadeOfSaid : Prop := fnExactPadeOfRow.holds Try.pinned (OpenSpec.ofChange fnExactPadeOfSpec)

/-- ITS FALSE NEIGHBOUR: 'it returns false'. Refute it at one input. -/
def fnExactPadeOfWrong : ChangeSpec := { name := "fnExactPadeOf", fn := fun _ => fun
  | [d1, d2, d3] => { results := [.lit (.bool false)], args := [d1, d2, d3] }
  | _ => none }
def FnExactPadeOfWrongFalsely : Prop := fnExactPadeOfRow.holds Try.pinned (OpenSpec.ofChange fnExactPadeOfWrong)

/-- 'laws.FnExactStabilityOrder': WHATEVER THE INPUT: true; the input reads as it did. -/
def fnExactStabilityOrderSpec : ChangeSpec := { name := "fnExactStabilityOrder", fn := fun _ => fun
  | [d] => { results := [.lit (.bool true)], args := [d] }
  | _ => none }
def fnExactStabilityOrderRow : OpenClaim := { program := "ytdhnnpohpfjaiaa", sum := "33175c0d852bb9b32c3f9f95b2e1388815fc269474d5b6c10800ffe837b8b21a", func := "loop.example/g01100/laws.FnExactStabilityOrder", spec := "fnExactStabilityOrder", unfollowed := true, recurses := true, plainKeys := false, apart := false }
def FnExactStabilityOrderSaid : Prop := fnExactStabilityOrderRow.holds Try.pinned (OpenSpec.ofChange fnExactStabilityOrderSpec)

/-- ITS FALSE NEIGHBOUR: 'it returns false'. Refute it at one input. -/
def fnExactStabilityOrderWrong : ChangeSpec := { name := "fnExactStabilityOrder", fn := fun _ => fun
  | [d] => { results := [.lit (.bool false)], args := [d] }
  | _ => none }
def FnExactStabilityOrderWrongFalsely : Prop := fnExactStabilityOrderRow.holds Try.pinned (OpenSpec.ofChange fnExactStabilityOrderWrong)

/-- 'laws.FnExactEvaluateField': WHATEVER THE INPUT: true; the input reads as it did. -/
def fnExactEvaluateFieldSpec : ChangeSpec := { name := "fnExactEvaluateField", fn := fun _ => fun
  | [d1, d2] => { results := [.lit (.bool true)], args := [d1, d2] }
  | _ => none }
def fnExactEvaluateFieldRow : OpenClaim := { program := "ytdhnnpohpfjaiaa", sum := "33175c0d852bb9b32c3f9f95b2e1388815fc269474d5b6c10800ffe837b8b21a", func := "loop.example/g01100/laws.FnExactEvaluateField", spec := "fnExactEvaluateField", unfollowed := true, recurses := true, plainKeys := false, apart := false }
def FnExactEvaluateFieldSaid : Prop := fnExactEvaluateFieldRow.holds Try.pinned (OpenSpec.ofChange fnExactEvaluateFieldSpec)

/-- ITS FALSE NEIGHBOUR: 'it returns false'. Refute it at one input. -/
def fnExactEvaluateFieldWrong : ChangeSpec := { name := "fnExactEvaluateField", fn := fun _ => fun
  | [d1, d2] => { results := [.lit (.bool false)], args := [d1, d2] }
  | _ => none }
def FnExactEvaluateFieldWrongFalsely : Prop := fnExactEvaluateFieldRow.holds Try.pinned (OpenSpec.ofChange fnExactEvaluateFieldWrong)

/-- 'laws.FnExactStabilityFraction': WHATEVER THE INPUT: true; the input reads as it did. -/
def fnExactStabilityFractionSpec : ChangeSpec := { name := "fnExactStabilityFraction", fn := fun _ => fun
  | [d] => { results := [.lit (.bool true)], args := [d] }
  | _ => none }
def fnExactStabilityFractionRow : OpenClaim := { program := "ytdhnnpohpfjaiaa", sum := "33175c0d852bb9b32c3f9f95b2e1388815fc269474d5b6c10800ffe837b8b21a", func := "loop.example/g01100/laws.FnExactStabilityFraction", spec := "fnExactStabilityFraction", unfollowed := true, recurses := true, plainKeys := false, apart := false }
def FnExactStabilityFractionSaid : Prop := fnExactStabilityFractionRow.holds Try.pinned (OpenSpec.ofChange fnExactStabilityFractionSpec)

/-- ITS FALSE NEIGHBOUR: 'it returns false'. Refute it at one input. -/
def fnExactStabilityFractionWrong : ChangeSpec := { name := "fnExactStabilityFraction", fn := fun _ => fun
  | [d] => { results := [.lit (.bool false)], args := [d] }
  | _ => none }
def FnExactStabilityFractionWrongFalsely : Prop := fnExactStabilityFractionRow.holds Try.pinned (OpenSpec.ofChange fnExactStabilityFractionWrong)

/- THE SECOND FORM. 'bulk': how many values and letters a reading holds, each counted each time it is reached (what is shared counts as often as it is met; a slice's spare places count too). A statement '..UptoSaid' is the law's where the arguments, and the package variables that the reading takes, are together of bulk at most 1048576: NARROWER than '..Said'. Prove '..Said' where nothing that the law and all that it calls make is longer than what came in: it says more and counts as full. Else prove '..UptoSaid'. A law counts once. -/
mutual
def uptoBulk {H : Type} : DataW H → Nat
  | .lit (.string bytes) => bytes.length + 1
  | .lit _ => 1
  | .nil => 1
  | .ptr d => uptoBulk d + 1
  | .slice elems spare => uptoBulkAll elems + uptoBulkAll spare + 1
  | .agg parts => uptoBulkAll parts + 1
  | .iface _ d => uptoBulk d + 1
  | .map entries => uptoBulkEntries entries + 1
  | .held _ => 1
def uptoBulkAll {H : Type} : List (DataW H) → Nat
  | [] => 0
  | d :: r => uptoBulk d + uptoBulkAll r
def uptoBulkEntries {H : Type} : List (Lit × DataW H) → Nat
  | [] => 0
  | x :: r => uptoBulkEntry x + uptoBulkEntries r
def uptoBulkEntry {H : Type} : Lit × DataW H → Nat
  | (.string bytes, d) => bytes.length + uptoBulk d + 1
  | (_, d) => uptoBulk d + 1
 end
def uptoSmall : (H : Type) → List (DataW H) → Bool := fun _ ds => decide (uptoBulkAll ds ≤ 1048576)
def OpenSpec.upto (s : _root_.Go.ChangeSpec) : _root_.Go.OpenSpec := { _root_.Go.OpenSpec.ofChange s with cond := some uptoSmall }

/-- 'laws.FnExactTallTree', WHERE WHAT IT READS IS OF BULK AT MOST 1048576: true; the input reads as it did. -/
def fnExactTallTreeUptoRow : OpenClaim := { program := "ytdhnnpohpfjaiaa", sum := "33175c0d852bb9b32c3f9f95b2e1388815fc269474d5b6c10800ffe837b8b21a", func := "loop.example/g01100/laws.FnExactTallTree", spec := "fnExactTallTree", plainKeys := false, apart := false, narrowed := true }
def FnExactTallTreeUptoSaid : Prop := fnExactTallTreeUptoRow.holds Try.pinned (OpenSpec.upto fnExactTallTreeSpec)

/-- 'laws.FnExactExponentialPade', WHERE WHAT IT READS IS OF BULK AT MOST 1048576: true; the input reads as it did. -/
def fnExactExponentialPadeUptoRow : OpenClaim := { program := "ytdhnnpohpfjaiaa", sum := "33175c0d852bb9b32c3f9f95b2e1388815fc269474d5b6c10800ffe837b8b21a", func := "loop.example/g01100/laws.FnExactExponentialPade", spec := "fnExactExponentialPade", plainKeys := false, apart := false, narrowed := true }
def FnExactExponentialPadeUptoSaid : Prop := fnExactExponentialPadeUptoRow.holds Try.pinned (OpenSpec.upto fnExactExponentialPadeSpec)

/-- 'laws.FnExactStabilitySeries', WHERE WHAT IT READS IS OF BULK AT MOST 1048576: true; the input reads as it did. -/
def fnExactStabilitySeriesUptoRow : OpenClaim := { program := "ytdhnnpohpfjaiaa", sum := "33175c0d852bb9b32c3f9f95b2e1388815fc269474d5b6c10800ffe837b8b21a", func := "loop.example/g01100/laws.FnExactStabilitySeries", spec := "fnExactStabilitySeries", unfollowed := true, recurses := true, plainKeys := false, apart := false, narrowed := true }
def FnExactStabilitySeriesUptoSaid : Prop := fnExactStabilitySeriesUptoRow.holds Try.pinned (OpenSpec.upto fnExactStabilitySeriesSpec)

/-- 'laws.FnExactPadeOf', WHERE WHAT IT READS IS OF BULK AT MOST 1048576: true; the input reads as it did. -/
def fnExactPadeOfUptoRow : OpenClaim := { program := "ytdhnnpohpfjaiaa", sum := "33175c0d852bb9b32c3f9f95b2e1388815fc269474d5b6c10800ffe837b8b21a", func := "loop.example/g01100/laws.FnExactPadeOf", spec := "fnExactPadeOf", unfollowed := true, recurses := true, plainKeys := false, apart := false, narrowed := true }
def FnExactPadeOfUptoSaid : Prop := fnExactPadeOfUptoRow.holds Try.pinned (OpenSpec.upto fnExactPadeOfSpec)

/-- 'laws.FnExactStabilityOrder', WHERE WHAT IT READS IS OF BULK AT MOST 1048576: true; the input reads as it did. -/
def fnExactStabilityOrderUptoRow : OpenClaim := { program := "ytdhnnpohpfjaiaa", sum := "33175c0d852bb9b32c3f9f95b2e1388815fc269474d5b6c10800ffe837b8b21a", func := "loop.example/g01100/laws.FnExactStabilityOrder", spec := "fnExactStabilityOrder", unfollowed := true, recurses := true, plainKeys := false, apart := false, narrowed := true }
def FnExactStabilityOrderUptoSaid : Prop := fnExactStabilityOrderUptoRow.holds Try.pinned (OpenSpec.upto fnExactStabilityOrderSpec)

/-- 'laws.FnExactEvaluateField', WHERE WHAT IT READS IS OF BULK AT MOST 1048576: true; the input reads as it did. -/
def fnExactEvaluateFieldUptoRow : OpenClaim := { program := "ytdhnnpohpfjaiaa", sum := "33175c0d852bb9b32c3f9f95b2e1388815fc269474d5b6c10800ffe837b8b21a", func := "loop.example/g01100/laws.FnExactEvaluateField", spec := "fnExactEvaluateField", unfollowed := true, recurses := true, plainKeys := false, apart := false, narrowed := true }
def FnExactEvaluateFieldUptoSaid : Prop := fnExactEvaluateFieldUptoRow.holds Try.pinned (OpenSpec.upto fnExactEvaluateFieldSpec)

/-- 'laws.FnExactStabilityFraction', WHERE WHAT IT READS IS OF BULK AT MOST 1048576: true; the input reads as it did. -/
def fnExactStabilityFractionUptoRow : OpenClaim := { program := "ytdhnnpohpfjaiaa", sum := "33175c0d852bb9b32c3f9f95b2e1388815fc269474d5b6c10800ffe837b8b21a", func := "loop.example/g01100/laws.FnExactStabilityFraction", spec := "fnExactStabilityFraction", unfollowed := true, recurses := true, plainKeys := false, apart := false, narrowed := true }
def FnExactStabilityFractionUptoSaid : Prop := fnExactStabilityFractionUptoRow.holds Try.pinned (OpenSpec.upto fnExactStabilityFractionSpec)

end Rows
end Go.Proofs.Ytdhnnpohpfjaiaa
