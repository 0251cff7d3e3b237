/-
  No cell of these rows narrows 'for every input' (looked for: loops, veiled, ifaces, maps, wideKeys, modest, calm, conditions, laid).
  DERIVED. THE GIVEN ROWS OF THIS SEAT. 5 by the template 'for every input the law returns true; each argument reads behind the call as it read before'; 0 by the template 'total and deterministic' (their statements: YtmojbncbbnjblaaTotals.lean).
  GIVEN WITH THE SEED: the statements are not yours to turn. If you find one false, say at which input.
  Laid BY PROGRAM, IN A SANDBOX (cutbox-rows.mjs): the forced cells as the released guide's own fill.sh prints them over the translation c51d4458ee990fe1… (all of the seat's roots in one cut). By AI agents, Wed Nov 11 2026. No macro, syntax, notation, axiom, sorry.
-/
import Derived.Test.YtmojbncbbnjblaaChecked
import GoSem.Claim
import GoSem.ClaimJoined
import GoSem.ClaimMapViews
import Derived.JoinedTies
import Derived.KernelRfl
namespace Go.Proofs.Ytmojbncbbnjblaa
/- THE CELL 'sum', in the pinned program and in every row, IS THE sha256 OF THE DUMP (.gsa) THAT YtmojbncbbnjblaaProg.lean LOADS. Nothing in Lean hashes anything: it is a label: what it is worth is what the hold of that sum in a sandbox is worth. -/
noncomputable def Try.pinned : Pinned := { name := "ytmojbncbbnjblaa", sum := "c51d4458ee990fe153a8967da47e75a5b8dba932d8e55f9ab803af1192f6d16e", checked := Try.checked }
namespace Rows
def none {H : Type} : Left H := { results := [], args := [] }

/-- 'laws.FnFlowGroup': WHATEVER THE INPUT: true; the input reads as it did. -/
def fnFlowGroupSpec : ChangeSpec := { name := "fnFlowGroup", fn := fun _ => fun
  | [d] => { results := [.lit (.bool true)], args := [d] }
  | _ => none }
def fnFlowGroupRow : OpenClaim := { program := "ytmojbncbbnjblaa", sum := "c51d4458ee990fe153a8967da47e75a5b8dba932d8e55f9ab803af1192f6d16e", func := "loop.example/g01100/laws.FnFlowGroup", spec := "fnFlowGroup", unfollowed := true, recurses := true, plainKeys := false, apart := false }
def FnFlowGroupSaid : Prop := fnFlowGroupRow.holds Try.pinned (OpenSpec.ofChange fnFlowGroupSpec)

/-- ITS FALSE NEIGHBOUR: 'it returns false'. Refute it at one input. -/
def fnFlowGroupWrong : ChangeSpec := { name := "fnFlowGroup", fn := fun _ => fun
  | [d] => { results := [.lit (.bool false)], args := [d] }
  | _ => none }
def FnFlowGroupWrongFalsely : Prop := fnFlowGroupRow.holds Try.pinned (OpenSpec.ofChange fnFlowGroupWrong)

/-- 'laws.FnStabilitySeries': WHATEVER THE INPUT: true; the input reads as it did. -/
def fnStabilitySeriesSpec : ChangeSpec := { name := "fnStabilitySeries", fn := fun _ => fun
  | [d] => { results := [.lit (.bool true)], args := [d] }
  | _ => none }
def fnStabilitySeriesRow : OpenClaim := { program := "ytmojbncbbnjblaa", sum := "c51d4458ee990fe153a8967da47e75a5b8dba932d8e55f9ab803af1192f6d16e", func := "loop.example/g01100/laws.FnStabilitySeries", spec := "fnStabilitySeries", unfollowed := true, recurses := true, plainKeys := false, apart := false }
def FnStabilitySeriesSaid : Prop := fnStabilitySeriesRow.holds Try.pinned (OpenSpec.ofChange fnStabilitySeriesSpec)

/-- ITS FALSE NEIGHBOUR: 'it returns false'. Refute it at one input. -/
def fnStabilitySeriesWrong : ChangeSpec := { name := "fnStabilitySeries", fn := fun _ => fun
  | [d] => { results := [.lit (.bool false)], args := [d] }
  | _ => none }
def FnStabilitySeriesWrongFalsely : Prop := fnStabilitySeriesRow.holds Try.pinned (OpenSpec.ofChange fnStabilitySeriesWrong)

/-- 'laws.FnStabilityOrders': WHATEVER THE INPUT: true; the input reads as it did. -/
def fnStabilityOrdersSpec : ChangeSpec := { name := "fnStabilityOrders", fn := fun _ => fun
  | [d] => { results := [.lit (.bool true)], args := [d] }
  | _ => none }
def fnStabilityOrdersRow : OpenClaim := { program := "ytmojbncbbnjblaa", sum := "c51d4458ee990fe153a8967da47e75a5b8dba932d8e55f9ab803af1192f6d16e", func := "loop.example/g01100/laws.FnStabilityOrders", spec := "fnStabilityOrders", unfollowed := true, recurses := true, plainKeys := false, apart := false }
def FnStabilityOrdersSaid : Prop := fnStabilityOrdersRow.holds Try.pinned (OpenSpec.ofChange fnStabilityOrdersSpec)

/-- ITS FALSE NEIGHBOUR: 'it returns false'. Refute it at one input. -/
def fnStabilityOrdersWrong : ChangeSpec := { name := "fnStabilityOrders", fn := fun _ => fun
  | [d] => { results := [.lit (.bool false)], args := [d] }
  | _ => none }
def FnStabilityOrdersWrongFalsely : Prop := fnStabilityOrdersRow.holds Try.pinned (OpenSpec.ofChange fnStabilityOrdersWrong)

/-- 'laws.FnExactStabilityAt': WHATEVER THE INPUT: true; the input reads as it did. -/
def fnExactStabilityAtSpec : ChangeSpec := { name := "fnExactStabilityAt", fn := fun _ => fun
  | [d1, d2] => { results := [.lit (.bool true)], args := [d1, d2] }
  | _ => none }
def fnExactStabilityAtRow : OpenClaim := { program := "ytmojbncbbnjblaa", sum := "c51d4458ee990fe153a8967da47e75a5b8dba932d8e55f9ab803af1192f6d16e", func := "loop.example/g01100/laws.FnExactStabilityAt", spec := "fnExactStabilityAt", unfollowed := true, recurses := true, plainKeys := false, apart := false }
def FnExactStabilityAtSaid : Prop := fnExactStabilityAtRow.holds Try.pinned (OpenSpec.ofChange fnExactStabilityAtSpec)

/-- ITS FALSE NEIGHBOUR: 'it returns false'. Refute it at one input. -/
def fnExactStabilityAtWrong : ChangeSpec := { name := "fnExactStabilityAt", fn := fun _ => fun
  | [d1, d2] => { results := [.lit (.bool false)], args := [d1, d2] }
  | _ => none }
def FnExactStabilityAtWrongFalsely : Prop := fnExactStabilityAtRow.holds Try.pinned (OpenSpec.ofChange fnExactStabilityAtWrong)

/-- 'laws.FnExactLinearStep': WHATEVER THE INPUT: true; the input reads as it did. -/
def fnExactLinearStepSpec : ChangeSpec := { name := "fnExactLinearStep", fn := fun _ => fun
  | [d1, d2, d3, d4] => { results := [.lit (.bool true)], args := [d1, d2, d3, d4] }
  | _ => none }
def fnExactLinearStepRow : OpenClaim := { program := "ytmojbncbbnjblaa", sum := "c51d4458ee990fe153a8967da47e75a5b8dba932d8e55f9ab803af1192f6d16e", func := "loop.example/g01100/laws.FnExactLinearStep", spec := "fnExactLinearStep", unfollowed := true, recurses := true, plainKeys := false, apart := false }
def FnExactLinearStepSaid : Prop := fnExactLinearStepRow.holds Try.pinned (OpenSpec.ofChange fnExactLinearStepSpec)

/-- ITS FALSE NEIGHBOUR: 'it returns false'. Refute it at one input. -/
def fnExactLinearStepWrong : ChangeSpec := { name := "fnExactLinearStep", fn := fun _ => fun
  | [d1, d2, d3, d4] => { results := [.lit (.bool false)], args := [d1, d2, d3, d4] }
  | _ => none }
def FnExactLinearStepWrongFalsely : Prop := fnExactLinearStepRow.holds Try.pinned (OpenSpec.ofChange fnExactLinearStepWrong)

/- THE SECOND FORM. 'bulk': how many values and letters a reading holds, each counted each time it is reached (what is shared counts as often as it is met; a slice's spare places count too). A statement '..UptoSaid' is the law's where the arguments, and the package variables that the reading takes, are together of bulk at most 1048576: NARROWER than '..Said'. Prove '..Said' where nothing that the law and all that it calls make is longer than what came in: it says more and counts as full. Else prove '..UptoSaid'. A law counts once. -/
mutual
def uptoBulk {H : Type} : DataW H → Nat
  | .lit (.string bytes) => bytes.length + 1
  | .lit _ => 1
  | .nil => 1
  | .ptr d => uptoBulk d + 1
  | .slice elems spare => uptoBulkAll elems + uptoBulkAll spare + 1
  | .agg parts => uptoBulkAll parts + 1
  | .iface _ d => uptoBulk d + 1
  | .map entries => uptoBulkEntries entries + 1
  | .held _ => 1
def uptoBulkAll {H : Type} : List (DataW H) → Nat
  | [] => 0
  | d :: r => uptoBulk d + uptoBulkAll r
def uptoBulkEntries {H : Type} : List (Lit × DataW H) → Nat
  | [] => 0
  | x :: r => uptoBulkEntry x + uptoBulkEntries r
def uptoBulkEntry {H : Type} : Lit × DataW H → Nat
  | (.string bytes, d) => bytes.length + uptoBulk d + 1
  | (_, d) => uptoBulk d + 1
 end
def uptoSmall : (H : Type) → List (DataW H) → Bool := fun _ ds => decide (uptoBulkAll ds ≤ 1048576)
def OpenSpec.upto (s : _root_.Go.ChangeSpec) : _root_.Go.OpenSpec := { _root_.Go.OpenSpec.ofChange s with cond := some uptoSmall }

/-- 'laws.FnFlowGroup', WHERE WHAT IT READS IS OF BULK AT MOST 1048576: true; the input reads as it did. -/
def fnFlowGroupUptoRow : OpenClaim := { program := "ytmojbncbbnjblaa", sum := "c51d4458ee990fe153a8967da47e75a5b8dba932d8e55f9ab803af1192f6d16e", func := "loop.example/g01100/laws.FnFlowGroup", spec := "fnFlowGroup", unfollowed := true, recurses := true, plainKeys := false, apart := false, narrowed := true }
def FnFlowGroupUptoSaid : Prop := fnFlowGroupUptoRow.holds Try.pinned (OpenSpec.upto fnFlowGroupSpec)

/-- 'laws.FnStabilitySeries', WHERE WHAT IT READS IS OF BULK AT MOST 1048576: true; the input reads as it did. -/
def fnStabilitySeriesUptoRow : OpenClaim := { program := "ytmojbncbbnjblaa", sum := "c51d4458ee990fe153a8967da47e75a5b8dba932d8e55f9ab803af1192f6d16e", func := "loop.example/g01100/laws.FnStabilitySeries", spec := "fnStabilitySeries", unfollowed := true, recurses := true, plainKeys := false, apart := false, narrowed := true }
def FnStabilitySeriesUptoSaid : Prop := fnStabilitySeriesUptoRow.holds Try.pinned (OpenSpec.upto fnStabilitySeriesSpec)

/-- 'laws.FnStabilityOrders', WHERE WHAT IT READS IS OF BULK AT MOST 1048576: true; the input reads as it did. -/
def fnStabilityOrdersUptoRow : OpenClaim := { program := "ytmojbncbbnjblaa", sum := "c51d4458ee990fe153a8967da47e75a5b8dba932d8e55f9ab803af1192f6d16e", func := "loop.example/g01100/laws.FnStabilityOrders", spec := "fnStabilityOrders", unfollowed := true, recurses := true, plainKeys := false, apart := false, narrowed := true }
def FnStabilityOrdersUptoSaid : Prop := fnStabilityOrdersUptoRow.holds Try.pinned (OpenSpec.upto fnStabilityOrdersSpec)

/-- 'laws.FnExactStabilityAt', WHERE WHAT IT READS IS OF BULK AT MOST 1048576: true; the input reads as it did. -/
def fnExactStabilityAtUptoRow : OpenClaim := { program := "ytmojbncbbnjblaa", sum := "c51d4458ee990fe153a8967da47e75a5b8dba932d8e55f9ab803af1192f6d16e", func := "loop.example/g01100/laws.FnExactStabilityAt", spec := "fnExactStabilityAt", unfollowed := true, recurses := true, plainKeys := false, apart := false, narrowed := true }
def FnExactStabilityAtUptoSaid : Prop := fnExactStabilityAtUptoRow.holds Try.pinned (OpenSpec.upto fnExactStabilityAtSpec)

/-- 'laws.FnExactLinearStep', WHERE WHAT IT READS IS OF BULK AT MOST 1048576: true; the input reads as it did. -/
def fnExactLinearStepUptoRow : OpenClaim := { program := "ytmojbncbbnjblaa", sum := "c51d4458ee990fe153a8967da47e75a5b8dba932d8e55f9ab803af1192f6d16e", func := "loop.example/g01100/laws.FnExactLinearStep", spec := "fnExactLinearStep", unfollowed := true, recurses := true, plainKeys := false, apart := false, narrowed := true }
def FnExactLinearStepUptoSaid : Prop := fnExactLinearStepUptoRow.holds Try.pinned (OpenSpec.upto fnExactLinearStepSpec)

end Rows
end Go.Proofs.Ytmojbncbbnjblaa
