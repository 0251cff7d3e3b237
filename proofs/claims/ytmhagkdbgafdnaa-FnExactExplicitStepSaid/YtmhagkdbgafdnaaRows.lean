/-
  No cell of these rows narrows 'for every input' (looked for: loops, veiled, ifaces, maps, wideKeys, modest, calm, conditions, laid).
  DERIVED. THE GIVEN ROWS OF THIS SEAT. 12 by the template 'for every input the law returns true; each argument reads behind the call as it read before'; 0 by the template 'total and deterministic' (their statements: YtmhagkdbgafdnaaTotals.lean).
  GIVEN WITH THE SEED: the statements are not yours to turn. If you find one false, say at which input.
  Laid BY PROGRAM, IN A SANDBOX (cutbox-rows.mjs): the forced cells as the released guide's own fill.sh prints them over the translation b8ffd6c271eceda5… (all of the seat's roots in one cut). By AI agents, Wed Nov 11 2026. No macro, syntax, notation, axiom, sorry.
-/
import Derived.Test.YtmhagkdbgafdnaaChecked
import GoSem.Claim
import GoSem.ClaimJoined
import GoSem.ClaimMapViews
import Derived.JoinedTies
import Derived.KernelRfl
namespace Go.Proofs.Ytmhagkdbgafdnaa
/- THE CELL 'sum', in the pinned program and in every row, IS THE sha256 OF THE DUMP (.gsa) THAT YtmhagkdbgafdnaaProg.lean LOADS. Nothing in Lean hashes anything: it is a label: what it is worth is what the hold of that sum in a sandbox is worth. -/
noncomputable def Try.pinned : Pinned := { name := "ytmhagkdbgafdnaa", sum := "b8ffd6c271eceda5f0fd436d65b8b87a78f866089a7b335291f35aef635d67f5", checked := Try.checked }
namespace Rows
def none {H : Type} : Left H := { results := [], args := [] }

/-- 'laws.FnExactJacobianAt': WHATEVER THE INPUT: true; the input reads as it did. -/
def fnExactJacobianAtSpec : ChangeSpec := { name := "fnExactJacobianAt", fn := fun _ => fun
  | [d1, d2] => { results := [.lit (.bool true)], args := [d1, d2] }
  | _ => none }
def fnExactJacobianAtRow : OpenClaim := { program := "ytmhagkdbgafdnaa", sum := "b8ffd6c271eceda5f0fd436d65b8b87a78f866089a7b335291f35aef635d67f5", func := "loop.example/g01100/laws.FnExactJacobianAt", spec := "fnExactJacobianAt", unfollowed := true, recurses := true, plainKeys := false, apart := false }
def FnExactJacobianAtSaid : Prop := fnExactJacobianAtRow.holds Try.pinned (OpenSpec.ofChange fnExactJacobianAtSpec)

/-- ITS FALSE NEIGHBOUR: 'it returns false'. Refute it at one input. -/
def fnExactJacobianAtWrong : ChangeSpec := { name := "fnExactJacobianAt", fn := fun _ => fun
  | [d1, d2] => { results := [.lit (.bool false)], args := [d1, d2] }
  | _ => none }
def FnExactJacobianAtWrongFalsely : Prop := fnExactJacobianAtRow.holds Try.pinned (OpenSpec.ofChange fnExactJacobianAtWrong)

/-- 'laws.FnExactDerivativeAt': WHATEVER THE INPUT: true; the input reads as it did. -/
def fnExactDerivativeAtSpec : ChangeSpec := { name := "fnExactDerivativeAt", fn := fun _ => fun
  | [d1, d2, d3] => { results := [.lit (.bool true)], args := [d1, d2, d3] }
  | _ => none }
def fnExactDerivativeAtRow : OpenClaim := { program := "ytmhagkdbgafdnaa", sum := "b8ffd6c271eceda5f0fd436d65b8b87a78f866089a7b335291f35aef635d67f5", func := "loop.example/g01100/laws.FnExactDerivativeAt", spec := "fnExactDerivativeAt", unfollowed := true, recurses := true, plainKeys := false, apart := false }
def FnExactDerivativeAtSaid : Prop := fnExactDerivativeAtRow.holds Try.pinned (OpenSpec.ofChange fnExactDerivativeAtSpec)

/-- ITS FALSE NEIGHBOUR: 'it returns false'. Refute it at one input. -/
def fnExactDerivativeAtWrong : ChangeSpec := { name := "fnExactDerivativeAt", fn := fun _ => fun
  | [d1, d2, d3] => { results := [.lit (.bool false)], args := [d1, d2, d3] }
  | _ => none }
def FnExactDerivativeAtWrongFalsely : Prop := fnExactDerivativeAtRow.holds Try.pinned (OpenSpec.ofChange fnExactDerivativeAtWrong)

/-- 'laws.FnExactElementaryDifferential': WHATEVER THE INPUT: true; the input reads as it did. -/
def fnExactElementaryDifferentialSpec : ChangeSpec := { name := "fnExactElementaryDifferential", fn := fun _ => fun
  | [d1, d2, d3] => { results := [.lit (.bool true)], args := [d1, d2, d3] }
  | _ => none }
def fnExactElementaryDifferentialRow : OpenClaim := { program := "ytmhagkdbgafdnaa", sum := "b8ffd6c271eceda5f0fd436d65b8b87a78f866089a7b335291f35aef635d67f5", func := "loop.example/g01100/laws.FnExactElementaryDifferential", spec := "fnExactElementaryDifferential", unfollowed := true, recurses := true, plainKeys := false, apart := false }
def FnExactElementaryDifferentialSaid : Prop := fnExactElementaryDifferentialRow.holds Try.pinned (OpenSpec.ofChange fnExactElementaryDifferentialSpec)

/-- ITS FALSE NEIGHBOUR: 'it returns false'. Refute it at one input. -/
def fnExactElementaryDifferentialWrong : ChangeSpec := { name := "fnExactElementaryDifferential", fn := fun _ => fun
  | [d1, d2, d3] => { results := [.lit (.bool false)], args := [d1, d2, d3] }
  | _ => none }
def FnExactElementaryDifferentialWrongFalsely : Prop := fnExactElementaryDifferentialRow.holds Try.pinned (OpenSpec.ofChange fnExactElementaryDifferentialWrong)

/-- 'laws.FnExactIsInvariantForm': WHATEVER THE INPUT: true; the input reads as it did. -/
def fnExactIsInvariantFormSpec : ChangeSpec := { name := "fnExactIsInvariantForm", fn := fun _ => fun
  | [d1, d2] => { results := [.lit (.bool true)], args := [d1, d2] }
  | _ => none }
def fnExactIsInvariantFormRow : OpenClaim := { program := "ytmhagkdbgafdnaa", sum := "b8ffd6c271eceda5f0fd436d65b8b87a78f866089a7b335291f35aef635d67f5", func := "loop.example/g01100/laws.FnExactIsInvariantForm", spec := "fnExactIsInvariantForm", unfollowed := true, recurses := true, plainKeys := false, apart := false }
def FnExactIsInvariantFormSaid : Prop := fnExactIsInvariantFormRow.holds Try.pinned (OpenSpec.ofChange fnExactIsInvariantFormSpec)

/-- ITS FALSE NEIGHBOUR: 'it returns false'. Refute it at one input. -/
def fnExactIsInvariantFormWrong : ChangeSpec := { name := "fnExactIsInvariantForm", fn := fun _ => fun
  | [d1, d2] => { results := [.lit (.bool false)], args := [d1, d2] }
  | _ => none }
def FnExactIsInvariantFormWrongFalsely : Prop := fnExactIsInvariantFormRow.holds Try.pinned (OpenSpec.ofChange fnExactIsInvariantFormWrong)

/-- 'laws.FnExactRunSteps': WHATEVER THE INPUT: true; the input reads as it did. -/
def fnExactRunStepsSpec : ChangeSpec := { name := "fnExactRunSteps", fn := fun _ => fun
  | [d1, d2, d3, d4, d5] => { results := [.lit (.bool true)], args := [d1, d2, d3, d4, d5] }
  | _ => none }
def fnExactRunStepsRow : OpenClaim := { program := "ytmhagkdbgafdnaa", sum := "b8ffd6c271eceda5f0fd436d65b8b87a78f866089a7b335291f35aef635d67f5", func := "loop.example/g01100/laws.FnExactRunSteps", spec := "fnExactRunSteps", unfollowed := true, recurses := true, plainKeys := false, apart := false }
def FnExactRunStepsSaid : Prop := fnExactRunStepsRow.holds Try.pinned (OpenSpec.ofChange fnExactRunStepsSpec)

/-- ITS FALSE NEIGHBOUR: 'it returns false'. Refute it at one input. -/
def fnExactRunStepsWrong : ChangeSpec := { name := "fnExactRunSteps", fn := fun _ => fun
  | [d1, d2, d3, d4, d5] => { results := [.lit (.bool false)], args := [d1, d2, d3, d4, d5] }
  | _ => none }
def FnExactRunStepsWrongFalsely : Prop := fnExactRunStepsRow.holds Try.pinned (OpenSpec.ofChange fnExactRunStepsWrong)

/-- 'laws.FnExactExplicitStep': WHATEVER THE INPUT: true; the input reads as it did. -/
def fnExactExplicitStepSpec : ChangeSpec := { name := "fnExactExplicitStep", fn := fun _ => fun
  | [d1, d2, d3, d4] => { results := [.lit (.bool true)], args := [d1, d2, d3, d4] }
  | _ => none }
def fnExactExplicitStepRow : OpenClaim := { program := "ytmhagkdbgafdnaa", sum := "b8ffd6c271eceda5f0fd436d65b8b87a78f866089a7b335291f35aef635d67f5", func := "loop.example/g01100/laws.FnExactExplicitStep", spec := "fnExactExplicitStep", unfollowed := true, recurses := true, plainKeys := false, apart := false }
def FnExactExplicitStepSaid : Prop := fnExactExplicitStepRow.holds Try.pinned (OpenSpec.ofChange fnExactExplicitStepSpec)

/-- ITS FALSE NEIGHBOUR: 'it returns false'. Refute it at one input. -/
def fnExactExplicitStepWrong : ChangeSpec := { name := "fnExactExplicitStep", fn := fun _ => fun
  | [d1, d2, d3, d4] => { results := [.lit (.bool false)], args := [d1, d2, d3, d4] }
  | _ => none }
def FnExactExplicitStepWrongFalsely : Prop := fnExactExplicitStepRow.holds Try.pinned (OpenSpec.ofChange fnExactExplicitStepWrong)

/-- 'laws.FnExactTermsOf': WHATEVER THE INPUT: true; the input reads as it did. -/
def fnExactTermsOfSpec : ChangeSpec := { name := "fnExactTermsOf", fn := fun _ => fun
  | [d1, d2, d3] => { results := [.lit (.bool true)], args := [d1, d2, d3] }
  | _ => none }
def fnExactTermsOfRow : OpenClaim := { program := "ytmhagkdbgafdnaa", sum := "b8ffd6c271eceda5f0fd436d65b8b87a78f866089a7b335291f35aef635d67f5", func := "loop.example/g01100/laws.FnExactTermsOf", spec := "fnExactTermsOf", unfollowed := true, recurses := true, plainKeys := false, apart := false }
def FnExactTermsOfSaid : Prop := fnExactTermsOfRow.holds Try.pinned (OpenSpec.ofChange fnExactTermsOfSpec)

/-- ITS FALSE NEIGHBOUR: 'it returns false'. Refute it at one input. -/
def fnExactTermsOfWrong : ChangeSpec := { name := "fnExactTermsOf", fn := fun _ => fun
  | [d1, d2, d3] => { results := [.lit (.bool false)], args := [d1, d2, d3] }
  | _ => none }
def FnExactTermsOfWrongFalsely : Prop := fnExactTermsOfRow.holds Try.pinned (OpenSpec.ofChange fnExactTermsOfWrong)

/-- 'laws.FnExactFlowSeries': WHATEVER THE INPUT: true; the input reads as it did. -/
def fnExactFlowSeriesSpec : ChangeSpec := { name := "fnExactFlowSeries", fn := fun _ => fun
  | [d1, d2] => { results := [.lit (.bool true)], args := [d1, d2] }
  | _ => none }
def fnExactFlowSeriesRow : OpenClaim := { program := "ytmhagkdbgafdnaa", sum := "b8ffd6c271eceda5f0fd436d65b8b87a78f866089a7b335291f35aef635d67f5", func := "loop.example/g01100/laws.FnExactFlowSeries", spec := "fnExactFlowSeries", unfollowed := true, recurses := true, plainKeys := false, apart := false }
def FnExactFlowSeriesSaid : Prop := fnExactFlowSeriesRow.holds Try.pinned (OpenSpec.ofChange fnExactFlowSeriesSpec)

/-- ITS FALSE NEIGHBOUR: 'it returns false'. Refute it at one input. -/
def fnExactFlowSeriesWrong : ChangeSpec := { name := "fnExactFlowSeries", fn := fun _ => fun
  | [d1, d2] => { results := [.lit (.bool false)], args := [d1, d2] }
  | _ => none }
def FnExactFlowSeriesWrongFalsely : Prop := fnExactFlowSeriesRow.holds Try.pinned (OpenSpec.ofChange fnExactFlowSeriesWrong)

/-- 'laws.FnExactStepFrom': WHATEVER THE INPUT: true; the input reads as it did. -/
def fnExactStepFromSpec : ChangeSpec := { name := "fnExactStepFrom", fn := fun _ => fun
  | [d1, d2, d3] => { results := [.lit (.bool true)], args := [d1, d2, d3] }
  | _ => none }
def fnExactStepFromRow : OpenClaim := { program := "ytmhagkdbgafdnaa", sum := "b8ffd6c271eceda5f0fd436d65b8b87a78f866089a7b335291f35aef635d67f5", func := "loop.example/g01100/laws.FnExactStepFrom", spec := "fnExactStepFrom", unfollowed := true, recurses := true, plainKeys := false, apart := false }
def FnExactStepFromSaid : Prop := fnExactStepFromRow.holds Try.pinned (OpenSpec.ofChange fnExactStepFromSpec)

/-- ITS FALSE NEIGHBOUR: 'it returns false'. Refute it at one input. -/
def fnExactStepFromWrong : ChangeSpec := { name := "fnExactStepFrom", fn := fun _ => fun
  | [d1, d2, d3] => { results := [.lit (.bool false)], args := [d1, d2, d3] }
  | _ => none }
def FnExactStepFromWrongFalsely : Prop := fnExactStepFromRow.holds Try.pinned (OpenSpec.ofChange fnExactStepFromWrong)

/-- 'laws.FnExactStepSeries': WHATEVER THE INPUT: true; the input reads as it did. -/
def fnExactStepSeriesSpec : ChangeSpec := { name := "fnExactStepSeries", fn := fun _ => fun
  | [d1, d2, d3] => { results := [.lit (.bool true)], args := [d1, d2, d3] }
  | _ => none }
def fnExactStepSeriesRow : OpenClaim := { program := "ytmhagkdbgafdnaa", sum := "b8ffd6c271eceda5f0fd436d65b8b87a78f866089a7b335291f35aef635d67f5", func := "loop.example/g01100/laws.FnExactStepSeries", spec := "fnExactStepSeries", unfollowed := true, recurses := true, plainKeys := false, apart := false }
def FnExactStepSeriesSaid : Prop := fnExactStepSeriesRow.holds Try.pinned (OpenSpec.ofChange fnExactStepSeriesSpec)

/-- ITS FALSE NEIGHBOUR: 'it returns false'. Refute it at one input. -/
def fnExactStepSeriesWrong : ChangeSpec := { name := "fnExactStepSeries", fn := fun _ => fun
  | [d1, d2, d3] => { results := [.lit (.bool false)], args := [d1, d2, d3] }
  | _ => none }
def FnExactStepSeriesWrongFalsely : Prop := fnExactStepSeriesRow.holds Try.pinned (OpenSpec.ofChange fnExactStepSeriesWrong)

/-- 'laws.FnExactDerivativesOf': WHATEVER THE INPUT: true; the input reads as it did. -/
def fnExactDerivativesOfSpec : ChangeSpec := { name := "fnExactDerivativesOf", fn := fun _ => fun
  | [d1, d2] => { results := [.lit (.bool true)], args := [d1, d2] }
  | _ => none }
def fnExactDerivativesOfRow : OpenClaim := { program := "ytmhagkdbgafdnaa", sum := "b8ffd6c271eceda5f0fd436d65b8b87a78f866089a7b335291f35aef635d67f5", func := "loop.example/g01100/laws.FnExactDerivativesOf", spec := "fnExactDerivativesOf", unfollowed := true, recurses := true, plainKeys := false, apart := false }
def FnExactDerivativesOfSaid : Prop := fnExactDerivativesOfRow.holds Try.pinned (OpenSpec.ofChange fnExactDerivativesOfSpec)

/-- ITS FALSE NEIGHBOUR: 'it returns false'. Refute it at one input. -/
def fnExactDerivativesOfWrong : ChangeSpec := { name := "fnExactDerivativesOf", fn := fun _ => fun
  | [d1, d2] => { results := [.lit (.bool false)], args := [d1, d2] }
  | _ => none }
def FnExactDerivativesOfWrongFalsely : Prop := fnExactDerivativesOfRow.holds Try.pinned (OpenSpec.ofChange fnExactDerivativesOfWrong)

/-- 'laws.FnExactFlowFrom': WHATEVER THE INPUT: true; the input reads as it did. -/
def fnExactFlowFromSpec : ChangeSpec := { name := "fnExactFlowFrom", fn := fun _ => fun
  | [d1, d2] => { results := [.lit (.bool true)], args := [d1, d2] }
  | _ => none }
def fnExactFlowFromRow : OpenClaim := { program := "ytmhagkdbgafdnaa", sum := "b8ffd6c271eceda5f0fd436d65b8b87a78f866089a7b335291f35aef635d67f5", func := "loop.example/g01100/laws.FnExactFlowFrom", spec := "fnExactFlowFrom", unfollowed := true, recurses := true, plainKeys := false, apart := false }
def FnExactFlowFromSaid : Prop := fnExactFlowFromRow.holds Try.pinned (OpenSpec.ofChange fnExactFlowFromSpec)

/-- ITS FALSE NEIGHBOUR: 'it returns false'. Refute it at one input. -/
def fnExactFlowFromWrong : ChangeSpec := { name := "fnExactFlowFrom", fn := fun _ => fun
  | [d1, d2] => { results := [.lit (.bool false)], args := [d1, d2] }
  | _ => none }
def FnExactFlowFromWrongFalsely : Prop := fnExactFlowFromRow.holds Try.pinned (OpenSpec.ofChange fnExactFlowFromWrong)

/- THE SECOND FORM. 'bulk': how many values and letters a reading holds, each counted each time it is reached (what is shared counts as often as it is met; a slice's spare places count too). A statement '..UptoSaid' is the law's where the arguments, and the package variables that the reading takes, are together of bulk at most 1048576: NARROWER than '..Said'. Prove '..Said' where nothing that the law and all that it calls make is longer than what came in: it says more and counts as full. Else prove '..UptoSaid'. A law counts once. -/
mutual
def uptoBulk {H : Type} : DataW H → Nat
  | .lit (.string bytes) => bytes.length + 1
  | .lit _ => 1
  | .nil => 1
  | .ptr d => uptoBulk d + 1
  | .slice elems spare => uptoBulkAll elems + uptoBulkAll spare + 1
  | .agg parts => uptoBulkAll parts + 1
  | .iface _ d => uptoBulk d + 1
  | .map entries => uptoBulkEntries entries + 1
  | .held _ => 1
def uptoBulkAll {H : Type} : List (DataW H) → Nat
  | [] => 0
  | d :: r => uptoBulk d + uptoBulkAll r
def uptoBulkEntries {H : Type} : List (Lit × DataW H) → Nat
  | [] => 0
  | x :: r => uptoBulkEntry x + uptoBulkEntries r
def uptoBulkEntry {H : Type} : Lit × DataW H → Nat
  | (.string bytes, d) => bytes.length + uptoBulk d + 1
  | (_, d) => uptoBulk d + 1
 end
def uptoSmall : (H : Type) → List (DataW H) → Bool := fun _ ds => decide (uptoBulkAll ds ≤ 1048576)
def OpenSpec.upto (s : _root_.Go.ChangeSpec) : _root_.Go.OpenSpec := { _root_.Go.OpenSpec.ofChange s with cond := some uptoSmall }

/-- 'laws.FnExactJacobianAt', WHERE WHAT IT READS IS OF BULK AT MOST 1048576: true; the input reads as it did. -/
def fnExactJacobianAtUptoRow : OpenClaim := { program := "ytmhagkdbgafdnaa", sum := "b8ffd6c271eceda5f0fd436d65b8b87a78f866089a7b335291f35aef635d67f5", func := "loop.example/g01100/laws.FnExactJacobianAt", spec := "fnExactJacobianAt", unfollowed := true, recurses := true, plainKeys := false, apart := false, narrowed := true }
def FnExactJacobianAtUptoSaid : Prop := fnExactJacobianAtUptoRow.holds Try.pinned (OpenSpec.upto fnExactJacobianAtSpec)

/-- 'laws.FnExactDerivativeAt', WHERE WHAT IT READS IS OF BULK AT MOST 1048576: true; the input reads as it did. -/
def fnExactDerivativeAtUptoRow : OpenClaim := { program := "ytmhagkdbgafdnaa", sum := "b8ffd6c271eceda5f0fd436d65b8b87a78f866089a7b335291f35aef635d67f5", func := "loop.example/g01100/laws.FnExactDerivativeAt", spec := "fnExactDerivativeAt", unfollowed := true, recurses := true, plainKeys := false, apart := false, narrowed := true }
def FnExactDerivativeAtUptoSaid : Prop := fnExactDerivativeAtUptoRow.holds Try.pinned (OpenSpec.upto fnExactDerivativeAtSpec)

/-- 'laws.FnExactElementaryDifferential', WHERE WHAT IT READS IS OF BULK AT MOST 1048576: true; the input reads as it did. -/
def fnExactElementaryDifferentialUptoRow : OpenClaim := { program := "ytmhagkdbgafdnaa", sum := "b8ffd6c271eceda5f0fd436d65b8b87a78f866089a7b335291f35aef635d67f5", func := "loop.example/g01100/laws.FnExactElementaryDifferential", spec := "fnExactElementaryDifferential", unfollowed := true, recurses := true, plainKeys := false, apart := false, narrowed := true }
def FnExactElementaryDifferentialUptoSaid : Prop := fnExactElementaryDifferentialUptoRow.holds Try.pinned (OpenSpec.upto fnExactElementaryDifferentialSpec)

/-- 'laws.FnExactIsInvariantForm', WHERE WHAT IT READS IS OF BULK AT MOST 1048576: true; the input reads as it did. -/
def fnExactIsInvariantFormUptoRow : OpenClaim := { program := "ytmhagkdbgafdnaa", sum := "b8ffd6c271eceda5f0fd436d65b8b87a78f866089a7b335291f35aef635d67f5", func := "loop.example/g01100/laws.FnExactIsInvariantForm", spec := "fnExactIsInvariantForm", unfollowed := true, recurses := true, plainKeys := false, apart := false, narrowed := true }
def FnExactIsInvariantFormUptoSaid : Prop := fnExactIsInvariantFormUptoRow.holds Try.pinned (OpenSpec.upto fnExactIsInvariantFormSpec)

/-- 'laws.FnExactRunSteps', WHERE WHAT IT READS IS OF BULK AT MOST 1048576: true; the input reads as it did. -/
def fnExactRunStepsUptoRow : OpenClaim := { program := "ytmhagkdbgafdnaa", sum := "b8ffd6c271eceda5f0fd436d65b8b87a78f866089a7b335291f35aef635d67f5", func := "loop.example/g01100/laws.FnExactRunSteps", spec := "fnExactRunSteps", unfollowed := true, recurses := true, plainKeys := false, apart := false, narrowed := true }
def FnExactRunStepsUptoSaid : Prop := fnExactRunStepsUptoRow.holds Try.pinned (OpenSpec.upto fnExactRunStepsSpec)

/-- 'laws.FnExactExplicitStep', WHERE WHAT IT READS IS OF BULK AT MOST 1048576: true; the input reads as it did. -/
def fnExactExplicitStepUptoRow : OpenClaim := { program := "ytmhagkdbgafdnaa", sum := "b8ffd6c271eceda5f0fd436d65b8b87a78f866089a7b335291f35aef635d67f5", func := "loop.example/g01100/laws.FnExactExplicitStep", spec := "fnExactExplicitStep", unfollowed := true, recurses := true, plainKeys := false, apart := false, narrowed := true }
def FnExactExplicitStepUptoSaid : Prop := fnExactExplicitStepUptoRow.holds Try.pinned (OpenSpec.upto fnExactExplicitStepSpec)

/-- 'laws.FnExactTermsOf', WHERE WHAT IT READS IS OF BULK AT MOST 1048576: true; the input reads as it did. -/
def fnExactTermsOfUptoRow : OpenClaim := { program := "ytmhagkdbgafdnaa", sum := "b8ffd6c271eceda5f0fd436d65b8b87a78f866089a7b335291f35aef635d67f5", func := "loop.example/g01100/laws.FnExactTermsOf", spec := "fnExactTermsOf", unfollowed := true, recurses := true, plainKeys := false, apart := false, narrowed := true }
def FnExactTermsOfUptoSaid : Prop := fnExactTermsOfUptoRow.holds Try.pinned (OpenSpec.upto fnExactTermsOfSpec)

/-- 'laws.FnExactFlowSeries', WHERE WHAT IT READS IS OF BULK AT MOST 1048576: true; the input reads as it did. -/
def fnExactFlowSeriesUptoRow : OpenClaim := { program := "ytmhagkdbgafdnaa", sum := "b8ffd6c271eceda5f0fd436d65b8b87a78f866089a7b335291f35aef635d67f5", func := "loop.example/g01100/laws.FnExactFlowSeries", spec := "fnExactFlowSeries", unfollowed := true, recurses := true, plainKeys := false, apart := false, narrowed := true }
def FnExactFlowSeriesUptoSaid : Prop := fnExactFlowSeriesUptoRow.holds Try.pinned (OpenSpec.upto fnExactFlowSeriesSpec)

/-- 'laws.FnExactStepFrom', WHERE WHAT IT READS IS OF BULK AT MOST 1048576: true; the input reads as it did. -/
def fnExactStepFromUptoRow : OpenClaim := { program := "ytmhagkdbgafdnaa", sum := "b8ffd6c271eceda5f0fd436d65b8b87a78f866089a7b335291f35aef635d67f5", func := "loop.example/g01100/laws.FnExactStepFrom", spec := "fnExactStepFrom", unfollowed := true, recurses := true, plainKeys := false, apart := false, narrowed := true }
def FnExactStepFromUptoSaid : Prop := fnExactStepFromUptoRow.holds Try.pinned (OpenSpec.upto fnExactStepFromSpec)

/-- 'laws.FnExactStepSeries', WHERE WHAT IT READS IS OF BULK AT MOST 1048576: true; the input reads as it did. -/
def fnExactStepSeriesUptoRow : OpenClaim := { program := "ytmhagkdbgafdnaa", sum := "b8ffd6c271eceda5f0fd436d65b8b87a78f866089a7b335291f35aef635d67f5", func := "loop.example/g01100/laws.FnExactStepSeries", spec := "fnExactStepSeries", unfollowed := true, recurses := true, plainKeys := false, apart := false, narrowed := true }
def FnExactStepSeriesUptoSaid : Prop := fnExactStepSeriesUptoRow.holds Try.pinned (OpenSpec.upto fnExactStepSeriesSpec)

/-- 'laws.FnExactDerivativesOf', WHERE WHAT IT READS IS OF BULK AT MOST 1048576: true; the input reads as it did. -/
def fnExactDerivativesOfUptoRow : OpenClaim := { program := "ytmhagkdbgafdnaa", sum := "b8ffd6c271eceda5f0fd436d65b8b87a78f866089a7b335291f35aef635d67f5", func := "loop.example/g01100/laws.FnExactDerivativesOf", spec := "fnExactDerivativesOf", unfollowed := true, recurses := true, plainKeys := false, apart := false, narrowed := true }
def FnExactDerivativesOfUptoSaid : Prop := fnExactDerivativesOfUptoRow.holds Try.pinned (OpenSpec.upto fnExactDerivativesOfSpec)

/-- 'laws.FnExactFlowFrom', WHERE WHAT IT READS IS OF BULK AT MOST 1048576: true; the input reads as it did. -/
def fnExactFlowFromUptoRow : OpenClaim := { program := "ytmhagkdbgafdnaa", sum := "b8ffd6c271eceda5f0fd436d65b8b87a78f866089a7b335291f35aef635d67f5", func := "loop.example/g01100/laws.FnExactFlowFrom", spec := "fnExactFlowFrom", unfollowed := true, recurses := true, plainKeys := false, apart := false, narrowed := true }
def FnExactFlowFromUptoSaid : Prop := fnExactFlowFromUptoRow.holds Try.pinned (OpenSpec.upto fnExactFlowFromSpec)

end Rows
end Go.Proofs.Ytmhagkdbgafdnaa
