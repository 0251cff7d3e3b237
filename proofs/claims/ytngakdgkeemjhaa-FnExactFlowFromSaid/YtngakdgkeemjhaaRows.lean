/-
  No cell of these rows narrows 'for every input' (looked for: loops, veiled, ifaces, maps, wideKeys, modest, calm, conditions, laid).
  DERIVED. THE GIVEN ROWS OF THIS SEAT. 9 by the template 'for every input the law returns true; each argument reads behind the call as it read before'; 0 by the template 'total and deterministic' (their statements: YtngakdgkeemjhaaTotals.lean).
  GIVEN WITH THE SEED: the statements are not yours to turn. If you find one false, say at which input.
  Laid BY PROGRAM, IN A SANDBOX (cutbox-rows.mjs): the forced cells as the released guide's own fill.sh prints them over the translation 84ce7a36f4d18b6c… (all of the seat's roots in one cut). By AI agents, Wed Nov 11 2026. No macro, syntax, notation, axiom, sorry.
-/
import Derived.Test.YtngakdgkeemjhaaChecked
import GoSem.Claim
import GoSem.ClaimJoined
import GoSem.ClaimMapViews
import Derived.JoinedTies
import Derived.KernelRfl
namespace Go.Proofs.Ytngakdgkeemjhaa
/- THE CELL 'sum', in the pinned program and in every row, IS THE sha256 OF THE DUMP (.gsa) THAT YtngakdgkeemjhaaProg.lean LOADS. Nothing in Lean hashes anything: it is a label: what it is worth is what the hold of that sum in a sandbox is worth. -/
noncomputable def Try.pinned : Pinned := { name := "ytngakdgkeemjhaa", sum := "84ce7a36f4d18b6cbff981240b7e010a8b6c80a3c764b035b5e4b6bcddaffc91", checked := Try.checked }
namespace Rows
def none {H : Type} : Left H := { results := [], args := [] }

/-- 'laws.FnExactStepFrom': WHATEVER THE INPUT: true; the input reads as it did. -/
def fnExactStepFromSpec : ChangeSpec := { name := "fnExactStepFrom", fn := fun _ => fun
  | [d1, d2, d3] => { results := [.lit (.bool true)], args := [d1, d2, d3] }
  | _ => none }
def fnExactStepFromRow : OpenClaim := { program := "ytngakdgkeemjhaa", sum := "84ce7a36f4d18b6cbff981240b7e010a8b6c80a3c764b035b5e4b6bcddaffc91", func := "loop.example/g01100/laws.FnExactStepFrom", spec := "fnExactStepFrom", unfollowed := true, recurses := true, plainKeys := false, apart := false }
def FnExactStepFromSaid : Prop := fnExactStepFromRow.holds Try.pinned (OpenSpec.ofChange fnExactStepFromSpec)

/-- ITS FALSE NEIGHBOUR: 'it returns false'. Refute it at one input. -/
def fnExactStepFromWrong : ChangeSpec := { name := "fnExactStepFrom", fn := fun _ => fun
  | [d1, d2, d3] => { results := [.lit (.bool false)], args := [d1, d2, d3] }
  | _ => none }
def FnExactStepFromWrongFalsely : Prop := fnExactStepFromRow.holds Try.pinned (OpenSpec.ofChange fnExactStepFromWrong)

/-- 'laws.FnExactStepSeries': WHATEVER THE INPUT: true; the input reads as it did. -/
def fnExactStepSeriesSpec : ChangeSpec := { name := "fnExactStepSeries", fn := fun _ => fun
  | [d1, d2, d3] => { results := [.lit (.bool true)], args := [d1, d2, d3] }
  | _ => none }
def fnExactStepSeriesRow : OpenClaim := { program := "ytngakdgkeemjhaa", sum := "84ce7a36f4d18b6cbff981240b7e010a8b6c80a3c764b035b5e4b6bcddaffc91", func := "loop.example/g01100/laws.FnExactStepSeries", spec := "fnExactStepSeries", unfollowed := true, recurses := true, plainKeys := false, apart := false }
def FnExactStepSeriesSaid : Prop := fnExactStepSeriesRow.holds Try.pinned (OpenSpec.ofChange fnExactStepSeriesSpec)

/-- ITS FALSE NEIGHBOUR: 'it returns false'. Refute it at one input. -/
def fnExactStepSeriesWrong : ChangeSpec := { name := "fnExactStepSeries", fn := fun _ => fun
  | [d1, d2, d3] => { results := [.lit (.bool false)], args := [d1, d2, d3] }
  | _ => none }
def FnExactStepSeriesWrongFalsely : Prop := fnExactStepSeriesRow.holds Try.pinned (OpenSpec.ofChange fnExactStepSeriesWrong)

/-- 'laws.FnExactStageSeries': WHATEVER THE INPUT: true; the input reads as it did. -/
def fnExactStageSeriesSpec : ChangeSpec := { name := "fnExactStageSeries", fn := fun _ => fun
  | [d1, d2, d3] => { results := [.lit (.bool true)], args := [d1, d2, d3] }
  | _ => none }
def fnExactStageSeriesRow : OpenClaim := { program := "ytngakdgkeemjhaa", sum := "84ce7a36f4d18b6cbff981240b7e010a8b6c80a3c764b035b5e4b6bcddaffc91", func := "loop.example/g01100/laws.FnExactStageSeries", spec := "fnExactStageSeries", unfollowed := true, recurses := true, plainKeys := false, apart := false }
def FnExactStageSeriesSaid : Prop := fnExactStageSeriesRow.holds Try.pinned (OpenSpec.ofChange fnExactStageSeriesSpec)

/-- ITS FALSE NEIGHBOUR: 'it returns false'. Refute it at one input. -/
def fnExactStageSeriesWrong : ChangeSpec := { name := "fnExactStageSeries", fn := fun _ => fun
  | [d1, d2, d3] => { results := [.lit (.bool false)], args := [d1, d2, d3] }
  | _ => none }
def FnExactStageSeriesWrongFalsely : Prop := fnExactStageSeriesRow.holds Try.pinned (OpenSpec.ofChange fnExactStageSeriesWrong)

/-- 'laws.FnExactFlowSeries': WHATEVER THE INPUT: true; the input reads as it did. -/
def fnExactFlowSeriesSpec : ChangeSpec := { name := "fnExactFlowSeries", fn := fun _ => fun
  | [d1, d2] => { results := [.lit (.bool true)], args := [d1, d2] }
  | _ => none }
def fnExactFlowSeriesRow : OpenClaim := { program := "ytngakdgkeemjhaa", sum := "84ce7a36f4d18b6cbff981240b7e010a8b6c80a3c764b035b5e4b6bcddaffc91", func := "loop.example/g01100/laws.FnExactFlowSeries", spec := "fnExactFlowSeries", unfollowed := true, recurses := true, plainKeys := false, apart := false }
def FnExactFlowSeriesSaid : Prop := fnExactFlowSeriesRow.holds Try.pinned (OpenSpec.ofChange fnExactFlowSeriesSpec)

/-- ITS FALSE NEIGHBOUR: 'it returns false'. Refute it at one input. -/
def fnExactFlowSeriesWrong : ChangeSpec := { name := "fnExactFlowSeries", fn := fun _ => fun
  | [d1, d2] => { results := [.lit (.bool false)], args := [d1, d2] }
  | _ => none }
def FnExactFlowSeriesWrongFalsely : Prop := fnExactFlowSeriesRow.holds Try.pinned (OpenSpec.ofChange fnExactFlowSeriesWrong)

/-- 'laws.FnExactFlowFrom': WHATEVER THE INPUT: true; the input reads as it did. -/
def fnExactFlowFromSpec : ChangeSpec := { name := "fnExactFlowFrom", fn := fun _ => fun
  | [d1, d2] => { results := [.lit (.bool true)], args := [d1, d2] }
  | _ => none }
def fnExactFlowFromRow : OpenClaim := { program := "ytngakdgkeemjhaa", sum := "84ce7a36f4d18b6cbff981240b7e010a8b6c80a3c764b035b5e4b6bcddaffc91", func := "loop.example/g01100/laws.FnExactFlowFrom", spec := "fnExactFlowFrom", unfollowed := true, recurses := true, plainKeys := false, apart := false }
def FnExactFlowFromSaid : Prop := fnExactFlowFromRow.holds Try.pinned (OpenSpec.ofChange fnExactFlowFromSpec)

/-- ITS FALSE NEIGHBOUR: 'it returns false'. Refute it at one input. -/
def fnExactFlowFromWrong : ChangeSpec := { name := "fnExactFlowFrom", fn := fun _ => fun
  | [d1, d2] => { results := [.lit (.bool false)], args := [d1, d2] }
  | _ => none }
def FnExactFlowFromWrongFalsely : Prop := fnExactFlowFromRow.holds Try.pinned (OpenSpec.ofChange fnExactFlowFromWrong)

/-- 'laws.FnExactDerivativesOf': WHATEVER THE INPUT: true; the input reads as it did. -/
def fnExactDerivativesOfSpec : ChangeSpec := { name := "fnExactDerivativesOf", fn := fun _ => fun
  | [d1, d2] => { results := [.lit (.bool true)], args := [d1, d2] }
  | _ => none }
def fnExactDerivativesOfRow : OpenClaim := { program := "ytngakdgkeemjhaa", sum := "84ce7a36f4d18b6cbff981240b7e010a8b6c80a3c764b035b5e4b6bcddaffc91", func := "loop.example/g01100/laws.FnExactDerivativesOf", spec := "fnExactDerivativesOf", unfollowed := true, recurses := true, plainKeys := false, apart := false }
def FnExactDerivativesOfSaid : Prop := fnExactDerivativesOfRow.holds Try.pinned (OpenSpec.ofChange fnExactDerivativesOfSpec)

/-- ITS FALSE NEIGHBOUR: 'it returns false'. Refute it at one input. -/
def fnExactDerivativesOfWrong : ChangeSpec := { name := "fnExactDerivativesOf", fn := fun _ => fun
  | [d1, d2] => { results := [.lit (.bool false)], args := [d1, d2] }
  | _ => none }
def FnExactDerivativesOfWrongFalsely : Prop := fnExactDerivativesOfRow.holds Try.pinned (OpenSpec.ofChange fnExactDerivativesOfWrong)

/-- 'laws.FnExactIsInvariantForm': WHATEVER THE INPUT: true; the input reads as it did. -/
def fnExactIsInvariantFormSpec : ChangeSpec := { name := "fnExactIsInvariantForm", fn := fun _ => fun
  | [d1, d2] => { results := [.lit (.bool true)], args := [d1, d2] }
  | _ => none }
def fnExactIsInvariantFormRow : OpenClaim := { program := "ytngakdgkeemjhaa", sum := "84ce7a36f4d18b6cbff981240b7e010a8b6c80a3c764b035b5e4b6bcddaffc91", func := "loop.example/g01100/laws.FnExactIsInvariantForm", spec := "fnExactIsInvariantForm", unfollowed := true, recurses := true, plainKeys := false, apart := false }
def FnExactIsInvariantFormSaid : Prop := fnExactIsInvariantFormRow.holds Try.pinned (OpenSpec.ofChange fnExactIsInvariantFormSpec)

/-- ITS FALSE NEIGHBOUR: 'it returns false'. Refute it at one input. -/
def fnExactIsInvariantFormWrong : ChangeSpec := { name := "fnExactIsInvariantForm", fn := fun _ => fun
  | [d1, d2] => { results := [.lit (.bool false)], args := [d1, d2] }
  | _ => none }
def FnExactIsInvariantFormWrongFalsely : Prop := fnExactIsInvariantFormRow.holds Try.pinned (OpenSpec.ofChange fnExactIsInvariantFormWrong)

/-- 'laws.FnExactTermsOf': WHATEVER THE INPUT: true; the input reads as it did. -/
def fnExactTermsOfSpec : ChangeSpec := { name := "fnExactTermsOf", fn := fun _ => fun
  | [d1, d2, d3] => { results := [.lit (.bool true)], args := [d1, d2, d3] }
  | _ => none }
def fnExactTermsOfRow : OpenClaim := { program := "ytngakdgkeemjhaa", sum := "84ce7a36f4d18b6cbff981240b7e010a8b6c80a3c764b035b5e4b6bcddaffc91", func := "loop.example/g01100/laws.FnExactTermsOf", spec := "fnExactTermsOf", unfollowed := true, recurses := true, plainKeys := false, apart := false }
def FnExactTermsOfSaid : Prop := fnExactTermsOfRow.holds Try.pinned (OpenSpec.ofChange fnExactTermsOfSpec)

/-- ITS FALSE NEIGHBOUR: 'it returns false'. Refute it at one input. -/
def fnExactTermsOfWrong : ChangeSpec := { name := "fnExactTermsOf", fn := fun _ => fun
  | [d1, d2, d3] => { results := [.lit (.bool false)], args := [d1, d2, d3] }
  | _ => none }
def FnExactTermsOfWrongFalsely : Prop := fnExactTermsOfRow.holds Try.pinned (OpenSpec.ofChange fnExactTermsOfWrong)

/-- 'laws.FnDerivatives': WHATEVER THE INPUT: true; the input reads as it did. -/
def fnDerivativesSpec : ChangeSpec := { name := "fnDerivatives", fn := fun _ => fun
  | [d] => { results := [.lit (.bool true)], args := [d] }
  | _ => none }
def fnDerivativesRow : OpenClaim := { program := "ytngakdgkeemjhaa", sum := "84ce7a36f4d18b6cbff981240b7e010a8b6c80a3c764b035b5e4b6bcddaffc91", func := "loop.example/g01100/laws.FnDerivatives", spec := "fnDerivatives", unfollowed := true, recurses := true, plainKeys := false, apart := false }
def FnDerivativesSaid : Prop := fnDerivativesRow.holds Try.pinned (OpenSpec.ofChange fnDerivativesSpec)

/-- ITS FALSE NEIGHBOUR: 'it returns false'. Refute it at one input. -/
def fnDerivativesWrong : ChangeSpec := { name := "fnDerivatives", fn := fun _ => fun
  | [d] => { results := [.lit (.bool false)], args := [d] }
  | _ => none }
def FnDerivativesWrongFalsely : Prop := fnDerivativesRow.holds Try.pinned (OpenSpec.ofChange fnDerivativesWrong)

/- THE SECOND FORM. 'bulk': how many values and letters a reading holds, each counted each time it is reached (what is shared counts as often as it is met; a slice's spare places count too). A statement '..UptoSaid' is the law's where the arguments, and the package variables that the reading takes, are together of bulk at most 1048576: NARROWER than '..Said'. Prove '..Said' where nothing that the law and all that it calls make is longer than what came in: it says more and counts as full. Else prove '..UptoSaid'. A law counts once. -/
mutual
def uptoBulk {H : Type} : DataW H → Nat
  | .lit (.string bytes) => bytes.length + 1
  | .lit _ => 1
  | .nil => 1
  | .ptr d => uptoBulk d + 1
  | .slice elems spare => uptoBulkAll elems + uptoBulkAll spare + 1
  | .agg parts => uptoBulkAll parts + 1
  | .iface _ d => uptoBulk d + 1
  | .map entries => uptoBulkEntries entries + 1
  | .held _ => 1
def uptoBulkAll {H : Type} : List (DataW H) → Nat
  | [] => 0
  | d :: r => uptoBulk d + uptoBulkAll r
def uptoBulkEntries {H : Type} : List (Lit × DataW H) → Nat
  | [] => 0
  | x :: r => uptoBulkEntry x + uptoBulkEntries r
def uptoBulkEntry {H : Type} : Lit × DataW H → Nat
  | (.string bytes, d) => bytes.length + uptoBulk d + 1
  | (_, d) => uptoBulk d + 1
 end
def uptoSmall : (H : Type) → List (DataW H) → Bool := fun _ ds => decide (uptoBulkAll ds ≤ 1048576)
def OpenSpec.upto (s : _root_.Go.ChangeSpec) : _root_.Go.OpenSpec := { _root_.Go.OpenSpec.ofChange s with cond := some uptoSmall }

/-- 'laws.FnExactStepFrom', WHERE WHAT IT READS IS OF BULK AT MOST 1048576: true; the input reads as it did. -/
def fnExactStepFromUptoRow : OpenClaim := { program := "ytngakdgkeemjhaa", sum := "84ce7a36f4d18b6cbff981240b7e010a8b6c80a3c764b035b5e4b6bcddaffc91", func := "loop.example/g01100/laws.FnExactStepFrom", spec := "fnExactStepFrom", unfollowed := true, recurses := true, plainKeys := false, apart := false, narrowed := true }
def FnExactStepFromUptoSaid : Prop := fnExactStepFromUptoRow.holds Try.pinned (OpenSpec.upto fnExactStepFromSpec)

/-- 'laws.FnExactStepSeries', WHERE WHAT IT READS IS OF BULK AT MOST 1048576: true; the input reads as it did. -/
def fnExactStepSeriesUptoRow : OpenClaim := { program := "ytngakdgkeemjhaa", sum := "84ce7a36f4d18b6cbff981240b7e010a8b6c80a3c764b035b5e4b6bcddaffc91", func := "loop.example/g01100/laws.FnExactStepSeries", spec := "fnExactStepSeries", unfollowed := true, recurses := true, plainKeys := false, apart := false, narrowed := true }
def FnExactStepSeriesUptoSaid : Prop := fnExactStepSeriesUptoRow.holds Try.pinned (OpenSpec.upto fnExactStepSeriesSpec)

/-- 'laws.FnExactStageSeries', WHERE WHAT IT READS IS OF BULK AT MOST 1048576: true; the input reads as it did. -/
def fnExactStageSeriesUptoRow : OpenClaim := { program := "ytngakdgkeemjhaa", sum := "84ce7a36f4d18b6cbff981240b7e010a8b6c80a3c764b035b5e4b6bcddaffc91", func := "loop.example/g01100/laws.FnExactStageSeries", spec := "fnExactStageSeries", unfollowed := true, recurses := true, plainKeys := false, apart := false, narrowed := true }
def FnExactStageSeriesUptoSaid : Prop := fnExactStageSeriesUptoRow.holds Try.pinned (OpenSpec.upto fnExactStageSeriesSpec)

/-- 'laws.FnExactFlowSeries', WHERE WHAT IT READS IS OF BULK AT MOST 1048576: true; the input reads as it did. -/
def fnExactFlowSeriesUptoRow : OpenClaim := { program := "ytngakdgkeemjhaa", sum := "84ce7a36f4d18b6cbff981240b7e010a8b6c80a3c764b035b5e4b6bcddaffc91", func := "loop.example/g01100/laws.FnExactFlowSeries", spec := "fnExactFlowSeries", unfollowed := true, recurses := true, plainKeys := false, apart := false, narrowed := true }
def FnExactFlowSeriesUptoSaid : Prop := fnExactFlowSeriesUptoRow.holds Try.pinned (OpenSpec.upto fnExactFlowSeriesSpec)

/-- 'laws.FnExactFlowFrom', WHERE WHAT IT READS IS OF BULK AT MOST 1048576: true; the input reads as it did. -/
def fnExactFlowFromUptoRow : OpenClaim := { program := "ytngakdgkeemjhaa", sum := "84ce7a36f4d18b6cbff981240b7e010a8b6c80a3c764b035b5e4b6bcddaffc91", func := "loop.example/g01100/laws.FnExactFlowFrom", spec := "fnExactFlowFrom", unfollowed := true, recurses := true, plainKeys := false, apart := false, narrowed := true }
def FnExactFlowFromUptoSaid : Prop := fnExactFlowFromUptoRow.holds Try.pinned (OpenSpec.upto fnExactFlowFromSpec)

/-- 'laws.FnExactDerivativesOf', WHERE WHAT IT READS IS OF BULK AT MOST 1048576: true; the input reads as it did. -/
def fnExactDerivativesOfUptoRow : OpenClaim := { program := "ytngakdgkeemjhaa", sum := "84ce7a36f4d18b6cbff981240b7e010a8b6c80a3c764b035b5e4b6bcddaffc91", func := "loop.example/g01100/laws.FnExactDerivativesOf", spec := "fnExactDerivativesOf", unfollowed := true, recurses := true, plainKeys := false, apart := false, narrowed := true }
def FnExactDerivativesOfUptoSaid : Prop := fnExactDerivativesOfUptoRow.holds Try.pinned (OpenSpec.upto fnExactDerivativesOfSpec)

/-- 'laws.FnExactIsInvariantForm', WHERE WHAT IT READS IS OF BULK AT MOST 1048576: true; the input reads as it did. -/
def fnExactIsInvariantFormUptoRow : OpenClaim := { program := "ytngakdgkeemjhaa", sum := "84ce7a36f4d18b6cbff981240b7e010a8b6c80a3c764b035b5e4b6bcddaffc91", func := "loop.example/g01100/laws.FnExactIsInvariantForm", spec := "fnExactIsInvariantForm", unfollowed := true, recurses := true, plainKeys := false, apart := false, narrowed := true }
def FnExactIsInvariantFormUptoSaid : Prop := fnExactIsInvariantFormUptoRow.holds Try.pinned (OpenSpec.upto fnExactIsInvariantFormSpec)

/-- 'laws.FnExactTermsOf', WHERE WHAT IT READS IS OF BULK AT MOST 1048576: true; the input reads as it did. -/
def fnExactTermsOfUptoRow : OpenClaim := { program := "ytngakdgkeemjhaa", sum := "84ce7a36f4d18b6cbff981240b7e010a8b6c80a3c764b035b5e4b6bcddaffc91", func := "loop.example/g01100/laws.FnExactTermsOf", spec := "fnExactTermsOf", unfollowed := true, recurses := true, plainKeys := false, apart := false, narrowed := true }
def FnExactTermsOfUptoSaid : Prop := fnExactTermsOfUptoRow.holds Try.pinned (OpenSpec.upto fnExactTermsOfSpec)

/-- 'laws.FnDerivatives', WHERE WHAT IT READS IS OF BULK AT MOST 1048576: true; the input reads as it did. -/
def fnDerivativesUptoRow : OpenClaim := { program := "ytngakdgkeemjhaa", sum := "84ce7a36f4d18b6cbff981240b7e010a8b6c80a3c764b035b5e4b6bcddaffc91", func := "loop.example/g01100/laws.FnDerivatives", spec := "fnDerivatives", unfollowed := true, recurses := true, plainKeys := false, apart := false, narrowed := true }
def FnDerivativesUptoSaid : Prop := fnDerivativesUptoRow.holds Try.pinned (OpenSpec.upto fnDerivativesSpec)

end Rows
end Go.Proofs.Ytngakdgkeemjhaa
