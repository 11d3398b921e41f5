/-
  No cell of these rows narrows 'for every input' (looked for: loops, veiled, ifaces, maps, wideKeys, modest, calm, conditions, laid).
  DERIVED. THE GIVEN ROWS OF THIS SEAT. 20 by the template 'for every input the law returns true; each argument reads behind the call as it read before'; 0 by the template 'total and deterministic' (their statements: YthfdkigljbdogaaTotals.lean).
  GIVEN WITH THE SEED: the statements are not yours to turn. If you find one false, say at which input.
  Laid BY PROGRAM, IN A SANDBOX (cutbox-rows.mjs): the forced cells as the released guide's own fill.sh prints them over the translation 7fd4b73d38fba587… (all of the seat's roots in one cut). By AI agents, Wed Nov 11 2026. No macro, syntax, notation, axiom, sorry.
-/
import Derived.Test.YthfdkigljbdogaaChecked
import GoSem.Claim
import GoSem.ClaimJoined
import GoSem.ClaimMapViews
import Derived.JoinedTies
import Derived.KernelRfl
namespace Go.Proofs.Ythfdkigljbdogaa
/- THE CELL 'sum', in the pinned program and in every row, IS THE sha256 OF THE DUMP (.gsa) THAT YthfdkigljbdogaaProg.lean LOADS. Nothing in Lean hashes anything: it is a label: what it is worth is what the hold of that sum in a sandbox is worth. -/
noncomputable def Try.pinned : Pinned := { name := "ythfdkigljbdogaa", sum := "7fd4b73d38fba587e66c9d63d0ef4aa13e1eb12b9d0bc02ee5751b2a5e7a728f", checked := Try.checked }
namespace Rows
def none {H : Type} : Left H := { results := [], args := [] }

/-- 'laws.FnExactThresholdOfBranch': WHATEVER THE INPUT: true; the input reads as it did. -/
def fnExactThresholdOfBranchSpec : ChangeSpec := { name := "fnExactThresholdOfBranch", fn := fun _ => fun
  | [d] => { results := [.lit (.bool true)], args := [d] }
  | _ => none }
def fnExactThresholdOfBranchRow : OpenClaim := { program := "ythfdkigljbdogaa", sum := "7fd4b73d38fba587e66c9d63d0ef4aa13e1eb12b9d0bc02ee5751b2a5e7a728f", func := "loop.example/g01140/laws.FnExactThresholdOfBranch", spec := "fnExactThresholdOfBranch", apart := false }
def FnExactThresholdOfBranchSaid : Prop := fnExactThresholdOfBranchRow.holds Try.pinned (OpenSpec.ofChange fnExactThresholdOfBranchSpec)

/-- ITS FALSE NEIGHBOUR: 'it returns false'. Refute it at one input. -/
def fnExactThresholdOfBranchWrong : ChangeSpec := { name := "fnExactThresholdOfBranch", fn := fun _ => fun
  | [d] => { results := [.lit (.bool false)], args := [d] }
  | _ => none }
def FnExactThresholdOfBranchWrongFalsely : Prop := fnExactThresholdOfBranchRow.holds Try.pinned (OpenSpec.ofChange fnExactThresholdOfBranchWrong)

/-- 'laws.FnExactBranchOfGenerators': WHATEVER THE INPUT: true; the input reads as it did. -/
def fnExactBranchOfGeneratorsSpec : ChangeSpec := { name := "fnExactBranchOfGenerators", fn := fun _ => fun
  | [d] => { results := [.lit (.bool true)], args := [d] }
  | _ => none }
def fnExactBranchOfGeneratorsRow : OpenClaim := { program := "ythfdkigljbdogaa", sum := "7fd4b73d38fba587e66c9d63d0ef4aa13e1eb12b9d0bc02ee5751b2a5e7a728f", func := "loop.example/g01140/laws.FnExactBranchOfGenerators", spec := "fnExactBranchOfGenerators", apart := false }
def FnExactBranchOfGeneratorsSaid : Prop := fnExactBranchOfGeneratorsRow.holds Try.pinned (OpenSpec.ofChange fnExactBranchOfGeneratorsSpec)

/-- ITS FALSE NEIGHBOUR: 'it returns false'. Refute it at one input. -/
def fnExactBranchOfGeneratorsWrong : ChangeSpec := { name := "fnExactBranchOfGenerators", fn := fun _ => fun
  | [d] => { results := [.lit (.bool false)], args := [d] }
  | _ => none }
def FnExactBranchOfGeneratorsWrongFalsely : Prop := fnExactBranchOfGeneratorsRow.holds Try.pinned (OpenSpec.ofChange fnExactBranchOfGeneratorsWrong)

/-- 'laws.FnExactExcessesOf': WHATEVER THE INPUT: true; the input reads as it did. -/
def fnExactExcessesOfSpec : ChangeSpec := { name := "fnExactExcessesOf", fn := fun _ => fun
  | [d] => { results := [.lit (.bool true)], args := [d] }
  | _ => none }
def fnExactExcessesOfRow : OpenClaim := { program := "ythfdkigljbdogaa", sum := "7fd4b73d38fba587e66c9d63d0ef4aa13e1eb12b9d0bc02ee5751b2a5e7a728f", func := "loop.example/g01140/laws.FnExactExcessesOf", spec := "fnExactExcessesOf", apart := false }
def FnExactExcessesOfSaid : Prop := fnExactExcessesOfRow.holds Try.pinned (OpenSpec.ofChange fnExactExcessesOfSpec)

/-- ITS FALSE NEIGHBOUR: 'it returns false'. Refute it at one input. -/
def fnExactExcessesOfWrong : ChangeSpec := { name := "fnExactExcessesOf", fn := fun _ => fun
  | [d] => { results := [.lit (.bool false)], args := [d] }
  | _ => none }
def FnExactExcessesOfWrongFalsely : Prop := fnExactExcessesOfRow.holds Try.pinned (OpenSpec.ofChange fnExactExcessesOfWrong)

/-- 'laws.FnExactPointDiscrepancies': WHATEVER THE INPUT: true; the input reads as it did. -/
def fnExactPointDiscrepanciesSpec : ChangeSpec := { name := "fnExactPointDiscrepancies", fn := fun _ => fun
  | [d] => { results := [.lit (.bool true)], args := [d] }
  | _ => none }
def fnExactPointDiscrepanciesRow : OpenClaim := { program := "ythfdkigljbdogaa", sum := "7fd4b73d38fba587e66c9d63d0ef4aa13e1eb12b9d0bc02ee5751b2a5e7a728f", func := "loop.example/g01140/laws.FnExactPointDiscrepancies", spec := "fnExactPointDiscrepancies", unfollowed := true, recurses := true, apart := false }
def FnExactPointDiscrepanciesSaid : Prop := fnExactPointDiscrepanciesRow.holds Try.pinned (OpenSpec.ofChange fnExactPointDiscrepanciesSpec)

/-- ITS FALSE NEIGHBOUR: 'it returns false'. Refute it at one input. -/
def fnExactPointDiscrepanciesWrong : ChangeSpec := { name := "fnExactPointDiscrepancies", fn := fun _ => fun
  | [d] => { results := [.lit (.bool false)], args := [d] }
  | _ => none }
def FnExactPointDiscrepanciesWrongFalsely : Prop := fnExactPointDiscrepanciesRow.holds Try.pinned (OpenSpec.ofChange fnExactPointDiscrepanciesWrong)

/-- 'laws.FnExactProximityMatrix': WHATEVER THE INPUT: true; the input reads as it did. -/
def fnExactProximityMatrixSpec : ChangeSpec := { name := "fnExactProximityMatrix", fn := fun _ => fun
  | [d] => { results := [.lit (.bool true)], args := [d] }
  | _ => none }
def fnExactProximityMatrixRow : OpenClaim := { program := "ythfdkigljbdogaa", sum := "7fd4b73d38fba587e66c9d63d0ef4aa13e1eb12b9d0bc02ee5751b2a5e7a728f", func := "loop.example/g01140/laws.FnExactProximityMatrix", spec := "fnExactProximityMatrix", apart := false }
def FnExactProximityMatrixSaid : Prop := fnExactProximityMatrixRow.holds Try.pinned (OpenSpec.ofChange fnExactProximityMatrixSpec)

/-- ITS FALSE NEIGHBOUR: 'it returns false'. Refute it at one input. -/
def fnExactProximityMatrixWrong : ChangeSpec := { name := "fnExactProximityMatrix", fn := fun _ => fun
  | [d] => { results := [.lit (.bool false)], args := [d] }
  | _ => none }
def FnExactProximityMatrixWrongFalsely : Prop := fnExactProximityMatrixRow.holds Try.pinned (OpenSpec.ofChange fnExactProximityMatrixWrong)

/-- 'laws.FnExactInverseProximity': WHATEVER THE INPUT: true; the input reads as it did. -/
def fnExactInverseProximitySpec : ChangeSpec := { name := "fnExactInverseProximity", fn := fun _ => fun
  | [d] => { results := [.lit (.bool true)], args := [d] }
  | _ => none }
def fnExactInverseProximityRow : OpenClaim := { program := "ythfdkigljbdogaa", sum := "7fd4b73d38fba587e66c9d63d0ef4aa13e1eb12b9d0bc02ee5751b2a5e7a728f", func := "loop.example/g01140/laws.FnExactInverseProximity", spec := "fnExactInverseProximity", apart := false }
def FnExactInverseProximitySaid : Prop := fnExactInverseProximityRow.holds Try.pinned (OpenSpec.ofChange fnExactInverseProximitySpec)

/-- ITS FALSE NEIGHBOUR: 'it returns false'. Refute it at one input. -/
def fnExactInverseProximityWrong : ChangeSpec := { name := "fnExactInverseProximity", fn := fun _ => fun
  | [d] => { results := [.lit (.bool false)], args := [d] }
  | _ => none }
def FnExactInverseProximityWrongFalsely : Prop := fnExactInverseProximityRow.holds Try.pinned (OpenSpec.ofChange fnExactInverseProximityWrong)

/-- 'laws.FnExactSemigroupBinomials': WHATEVER THE INPUT: true; the input reads as it did. -/
def fnExactSemigroupBinomialsSpec : ChangeSpec := { name := "fnExactSemigroupBinomials", fn := fun _ => fun
  | [d] => { results := [.lit (.bool true)], args := [d] }
  | _ => none }
def fnExactSemigroupBinomialsRow : OpenClaim := { program := "ythfdkigljbdogaa", sum := "7fd4b73d38fba587e66c9d63d0ef4aa13e1eb12b9d0bc02ee5751b2a5e7a728f", func := "loop.example/g01140/laws.FnExactSemigroupBinomials", spec := "fnExactSemigroupBinomials", apart := false }
def FnExactSemigroupBinomialsSaid : Prop := fnExactSemigroupBinomialsRow.holds Try.pinned (OpenSpec.ofChange fnExactSemigroupBinomialsSpec)

/-- ITS FALSE NEIGHBOUR: 'it returns false'. Refute it at one input. -/
def fnExactSemigroupBinomialsWrong : ChangeSpec := { name := "fnExactSemigroupBinomials", fn := fun _ => fun
  | [d] => { results := [.lit (.bool false)], args := [d] }
  | _ => none }
def FnExactSemigroupBinomialsWrongFalsely : Prop := fnExactSemigroupBinomialsRow.holds Try.pinned (OpenSpec.ofChange fnExactSemigroupBinomialsWrong)

/-- 'laws.FnExactSimpleCluster': WHATEVER THE INPUT: true; the input reads as it did. -/
def fnExactSimpleClusterSpec : ChangeSpec := { name := "fnExactSimpleCluster", fn := fun _ => fun
  | [d1, d2] => { results := [.lit (.bool true)], args := [d1, d2] }
  | _ => none }
def fnExactSimpleClusterRow : OpenClaim := { program := "ythfdkigljbdogaa", sum := "7fd4b73d38fba587e66c9d63d0ef4aa13e1eb12b9d0bc02ee5751b2a5e7a728f", func := "loop.example/g01140/laws.FnExactSimpleCluster", spec := "fnExactSimpleCluster", apart := false }
def FnExactSimpleClusterSaid : Prop := fnExactSimpleClusterRow.holds Try.pinned (OpenSpec.ofChange fnExactSimpleClusterSpec)

/-- ITS FALSE NEIGHBOUR: 'it returns false'. Refute it at one input. -/
def fnExactSimpleClusterWrong : ChangeSpec := { name := "fnExactSimpleCluster", fn := fun _ => fun
  | [d1, d2] => { results := [.lit (.bool false)], args := [d1, d2] }
  | _ => none }
def FnExactSimpleClusterWrongFalsely : Prop := fnExactSimpleClusterRow.holds Try.pinned (OpenSpec.ofChange fnExactSimpleClusterWrong)

/-- 'laws.FnExactClusterOfOrders': WHATEVER THE INPUT: true; the input reads as it did. -/
def fnExactClusterOfOrdersSpec : ChangeSpec := { name := "fnExactClusterOfOrders", fn := fun _ => fun
  | [d1, d2] => { results := [.lit (.bool true)], args := [d1, d2] }
  | _ => none }
def fnExactClusterOfOrdersRow : OpenClaim := { program := "ythfdkigljbdogaa", sum := "7fd4b73d38fba587e66c9d63d0ef4aa13e1eb12b9d0bc02ee5751b2a5e7a728f", func := "loop.example/g01140/laws.FnExactClusterOfOrders", spec := "fnExactClusterOfOrders", apart := false }
def FnExactClusterOfOrdersSaid : Prop := fnExactClusterOfOrdersRow.holds Try.pinned (OpenSpec.ofChange fnExactClusterOfOrdersSpec)

/-- ITS FALSE NEIGHBOUR: 'it returns false'. Refute it at one input. -/
def fnExactClusterOfOrdersWrong : ChangeSpec := { name := "fnExactClusterOfOrders", fn := fun _ => fun
  | [d1, d2] => { results := [.lit (.bool false)], args := [d1, d2] }
  | _ => none }
def FnExactClusterOfOrdersWrongFalsely : Prop := fnExactClusterOfOrdersRow.holds Try.pinned (OpenSpec.ofChange fnExactClusterOfOrdersWrong)

/-- 'laws.FnExactAddClusters': WHATEVER THE INPUT: true; the input reads as it did. -/
def fnExactAddClustersSpec : ChangeSpec := { name := "fnExactAddClusters", fn := fun _ => fun
  | [d1, d2] => { results := [.lit (.bool true)], args := [d1, d2] }
  | _ => none }
def fnExactAddClustersRow : OpenClaim := { program := "ythfdkigljbdogaa", sum := "7fd4b73d38fba587e66c9d63d0ef4aa13e1eb12b9d0bc02ee5751b2a5e7a728f", func := "loop.example/g01140/laws.FnExactAddClusters", spec := "fnExactAddClusters", apart := false }
def FnExactAddClustersSaid : Prop := fnExactAddClustersRow.holds Try.pinned (OpenSpec.ofChange fnExactAddClustersSpec)

/-- ITS FALSE NEIGHBOUR: 'it returns false'. Refute it at one input. -/
def fnExactAddClustersWrong : ChangeSpec := { name := "fnExactAddClusters", fn := fun _ => fun
  | [d1, d2] => { results := [.lit (.bool false)], args := [d1, d2] }
  | _ => none }
def FnExactAddClustersWrongFalsely : Prop := fnExactAddClustersRow.holds Try.pinned (OpenSpec.ofChange fnExactAddClustersWrong)

/-- 'laws.FnExactClusterOfExcesses': WHATEVER THE INPUT: true; the input reads as it did. -/
def fnExactClusterOfExcessesSpec : ChangeSpec := { name := "fnExactClusterOfExcesses", fn := fun _ => fun
  | [d1, d2] => { results := [.lit (.bool true)], args := [d1, d2] }
  | _ => none }
def fnExactClusterOfExcessesRow : OpenClaim := { program := "ythfdkigljbdogaa", sum := "7fd4b73d38fba587e66c9d63d0ef4aa13e1eb12b9d0bc02ee5751b2a5e7a728f", func := "loop.example/g01140/laws.FnExactClusterOfExcesses", spec := "fnExactClusterOfExcesses", apart := false }
def FnExactClusterOfExcessesSaid : Prop := fnExactClusterOfExcessesRow.holds Try.pinned (OpenSpec.ofChange fnExactClusterOfExcessesSpec)

/-- ITS FALSE NEIGHBOUR: 'it returns false'. Refute it at one input. -/
def fnExactClusterOfExcessesWrong : ChangeSpec := { name := "fnExactClusterOfExcesses", fn := fun _ => fun
  | [d1, d2] => { results := [.lit (.bool false)], args := [d1, d2] }
  | _ => none }
def FnExactClusterOfExcessesWrongFalsely : Prop := fnExactClusterOfExcessesRow.holds Try.pinned (OpenSpec.ofChange fnExactClusterOfExcessesWrong)

/-- 'laws.FnExactExceptionalMatrix': WHATEVER THE INPUT: true; the input reads as it did. -/
def fnExactExceptionalMatrixSpec : ChangeSpec := { name := "fnExactExceptionalMatrix", fn := fun _ => fun
  | [d] => { results := [.lit (.bool true)], args := [d] }
  | _ => none }
def fnExactExceptionalMatrixRow : OpenClaim := { program := "ythfdkigljbdogaa", sum := "7fd4b73d38fba587e66c9d63d0ef4aa13e1eb12b9d0bc02ee5751b2a5e7a728f", func := "loop.example/g01140/laws.FnExactExceptionalMatrix", spec := "fnExactExceptionalMatrix", apart := false }
def FnExactExceptionalMatrixSaid : Prop := fnExactExceptionalMatrixRow.holds Try.pinned (OpenSpec.ofChange fnExactExceptionalMatrixSpec)

/-- ITS FALSE NEIGHBOUR: 'it returns false'. Refute it at one input. -/
def fnExactExceptionalMatrixWrong : ChangeSpec := { name := "fnExactExceptionalMatrix", fn := fun _ => fun
  | [d] => { results := [.lit (.bool false)], args := [d] }
  | _ => none }
def FnExactExceptionalMatrixWrongFalsely : Prop := fnExactExceptionalMatrixRow.holds Try.pinned (OpenSpec.ofChange fnExactExceptionalMatrixWrong)

/-- 'laws.FnExactFactorsOf': WHATEVER THE INPUT: true; the input reads as it did. -/
def fnExactFactorsOfSpec : ChangeSpec := { name := "fnExactFactorsOf", fn := fun _ => fun
  | [d] => { results := [.lit (.bool true)], args := [d] }
  | _ => none }
def fnExactFactorsOfRow : OpenClaim := { program := "ythfdkigljbdogaa", sum := "7fd4b73d38fba587e66c9d63d0ef4aa13e1eb12b9d0bc02ee5751b2a5e7a728f", func := "loop.example/g01140/laws.FnExactFactorsOf", spec := "fnExactFactorsOf", apart := false }
def FnExactFactorsOfSaid : Prop := fnExactFactorsOfRow.holds Try.pinned (OpenSpec.ofChange fnExactFactorsOfSpec)

/-- ITS FALSE NEIGHBOUR: 'it returns false'. Refute it at one input. -/
def fnExactFactorsOfWrong : ChangeSpec := { name := "fnExactFactorsOf", fn := fun _ => fun
  | [d] => { results := [.lit (.bool false)], args := [d] }
  | _ => none }
def FnExactFactorsOfWrongFalsely : Prop := fnExactFactorsOfRow.holds Try.pinned (OpenSpec.ofChange fnExactFactorsOfWrong)

/-- 'laws.FnExactUnloadStep': WHATEVER THE INPUT: true; the input reads as it did. -/
def fnExactUnloadStepSpec : ChangeSpec := { name := "fnExactUnloadStep", fn := fun _ => fun
  | [d] => { results := [.lit (.bool true)], args := [d] }
  | _ => none }
def fnExactUnloadStepRow : OpenClaim := { program := "ythfdkigljbdogaa", sum := "7fd4b73d38fba587e66c9d63d0ef4aa13e1eb12b9d0bc02ee5751b2a5e7a728f", func := "loop.example/g01140/laws.FnExactUnloadStep", spec := "fnExactUnloadStep", unfollowed := true, recurses := true, apart := false }
def FnExactUnloadStepSaid : Prop := fnExactUnloadStepRow.holds Try.pinned (OpenSpec.ofChange fnExactUnloadStepSpec)

/-- ITS FALSE NEIGHBOUR: 'it returns false'. Refute it at one input. -/
def fnExactUnloadStepWrong : ChangeSpec := { name := "fnExactUnloadStep", fn := fun _ => fun
  | [d] => { results := [.lit (.bool false)], args := [d] }
  | _ => none }
def FnExactUnloadStepWrongFalsely : Prop := fnExactUnloadStepRow.holds Try.pinned (OpenSpec.ofChange fnExactUnloadStepWrong)

/-- 'laws.FnExactUnloadCluster': WHATEVER THE INPUT: true; the input reads as it did. -/
def fnExactUnloadClusterSpec : ChangeSpec := { name := "fnExactUnloadCluster", fn := fun _ => fun
  | [d] => { results := [.lit (.bool true)], args := [d] }
  | _ => none }
def fnExactUnloadClusterRow : OpenClaim := { program := "ythfdkigljbdogaa", sum := "7fd4b73d38fba587e66c9d63d0ef4aa13e1eb12b9d0bc02ee5751b2a5e7a728f", func := "loop.example/g01140/laws.FnExactUnloadCluster", spec := "fnExactUnloadCluster", apart := false }
def FnExactUnloadClusterSaid : Prop := fnExactUnloadClusterRow.holds Try.pinned (OpenSpec.ofChange fnExactUnloadClusterSpec)

/-- ITS FALSE NEIGHBOUR: 'it returns false'. Refute it at one input. -/
def fnExactUnloadClusterWrong : ChangeSpec := { name := "fnExactUnloadCluster", fn := fun _ => fun
  | [d] => { results := [.lit (.bool false)], args := [d] }
  | _ => none }
def FnExactUnloadClusterWrongFalsely : Prop := fnExactUnloadClusterRow.holds Try.pinned (OpenSpec.ofChange fnExactUnloadClusterWrong)

/-- 'laws.FnExactCodimensionOf': WHATEVER THE INPUT: true; the input reads as it did. -/
def fnExactCodimensionOfSpec : ChangeSpec := { name := "fnExactCodimensionOf", fn := fun _ => fun
  | [d] => { results := [.lit (.bool true)], args := [d] }
  | _ => none }
def fnExactCodimensionOfRow : OpenClaim := { program := "ythfdkigljbdogaa", sum := "7fd4b73d38fba587e66c9d63d0ef4aa13e1eb12b9d0bc02ee5751b2a5e7a728f", func := "loop.example/g01140/laws.FnExactCodimensionOf", spec := "fnExactCodimensionOf", apart := false }
def FnExactCodimensionOfSaid : Prop := fnExactCodimensionOfRow.holds Try.pinned (OpenSpec.ofChange fnExactCodimensionOfSpec)

/-- ITS FALSE NEIGHBOUR: 'it returns false'. Refute it at one input. -/
def fnExactCodimensionOfWrong : ChangeSpec := { name := "fnExactCodimensionOf", fn := fun _ => fun
  | [d] => { results := [.lit (.bool false)], args := [d] }
  | _ => none }
def FnExactCodimensionOfWrongFalsely : Prop := fnExactCodimensionOfRow.holds Try.pinned (OpenSpec.ofChange fnExactCodimensionOfWrong)

/-- 'laws.FnExactSquareOfCluster': WHATEVER THE INPUT: true; the input reads as it did. -/
def fnExactSquareOfClusterSpec : ChangeSpec := { name := "fnExactSquareOfCluster", fn := fun _ => fun
  | [d] => { results := [.lit (.bool true)], args := [d] }
  | _ => none }
def fnExactSquareOfClusterRow : OpenClaim := { program := "ythfdkigljbdogaa", sum := "7fd4b73d38fba587e66c9d63d0ef4aa13e1eb12b9d0bc02ee5751b2a5e7a728f", func := "loop.example/g01140/laws.FnExactSquareOfCluster", spec := "fnExactSquareOfCluster", apart := false }
def FnExactSquareOfClusterSaid : Prop := fnExactSquareOfClusterRow.holds Try.pinned (OpenSpec.ofChange fnExactSquareOfClusterSpec)

/-- ITS FALSE NEIGHBOUR: 'it returns false'. Refute it at one input. -/
def fnExactSquareOfClusterWrong : ChangeSpec := { name := "fnExactSquareOfCluster", fn := fun _ => fun
  | [d] => { results := [.lit (.bool false)], args := [d] }
  | _ => none }
def FnExactSquareOfClusterWrongFalsely : Prop := fnExactSquareOfClusterRow.holds Try.pinned (OpenSpec.ofChange fnExactSquareOfClusterWrong)

/-- 'laws.FnExactMixedProduct': WHATEVER THE INPUT: true; the input reads as it did. -/
def fnExactMixedProductSpec : ChangeSpec := { name := "fnExactMixedProduct", fn := fun _ => fun
  | [d1, d2] => { results := [.lit (.bool true)], args := [d1, d2] }
  | _ => none }
def fnExactMixedProductRow : OpenClaim := { program := "ythfdkigljbdogaa", sum := "7fd4b73d38fba587e66c9d63d0ef4aa13e1eb12b9d0bc02ee5751b2a5e7a728f", func := "loop.example/g01140/laws.FnExactMixedProduct", spec := "fnExactMixedProduct", apart := false }
def FnExactMixedProductSaid : Prop := fnExactMixedProductRow.holds Try.pinned (OpenSpec.ofChange fnExactMixedProductSpec)

/-- ITS FALSE NEIGHBOUR: 'it returns false'. Refute it at one input. -/
def fnExactMixedProductWrong : ChangeSpec := { name := "fnExactMixedProduct", fn := fun _ => fun
  | [d1, d2] => { results := [.lit (.bool false)], args := [d1, d2] }
  | _ => none }
def FnExactMixedProductWrongFalsely : Prop := fnExactMixedProductRow.holds Try.pinned (OpenSpec.ofChange fnExactMixedProductWrong)

/-- 'laws.FnExactLeastThreshold': WHATEVER THE INPUT: true; the input reads as it did. -/
def fnExactLeastThresholdSpec : ChangeSpec := { name := "fnExactLeastThreshold", fn := fun _ => fun
  | [d] => { results := [.lit (.bool true)], args := [d] }
  | _ => none }
def fnExactLeastThresholdRow : OpenClaim := { program := "ythfdkigljbdogaa", sum := "7fd4b73d38fba587e66c9d63d0ef4aa13e1eb12b9d0bc02ee5751b2a5e7a728f", func := "loop.example/g01140/laws.FnExactLeastThreshold", spec := "fnExactLeastThreshold", unfollowed := true, recurses := true, apart := false }
def FnExactLeastThresholdSaid : Prop := fnExactLeastThresholdRow.holds Try.pinned (OpenSpec.ofChange fnExactLeastThresholdSpec)

/-- ITS FALSE NEIGHBOUR: 'it returns false'. Refute it at one input. -/
def fnExactLeastThresholdWrong : ChangeSpec := { name := "fnExactLeastThreshold", fn := fun _ => fun
  | [d] => { results := [.lit (.bool false)], args := [d] }
  | _ => none }
def FnExactLeastThresholdWrongFalsely : Prop := fnExactLeastThresholdRow.holds Try.pinned (OpenSpec.ofChange fnExactLeastThresholdWrong)

/-- 'laws.FnExactMultiplierCluster': WHATEVER THE INPUT: true; the input reads as it did. -/
def fnExactMultiplierClusterSpec : ChangeSpec := { name := "fnExactMultiplierCluster", fn := fun _ => fun
  | [d1, d2] => { results := [.lit (.bool true)], args := [d1, d2] }
  | _ => none }
def fnExactMultiplierClusterRow : OpenClaim := { program := "ythfdkigljbdogaa", sum := "7fd4b73d38fba587e66c9d63d0ef4aa13e1eb12b9d0bc02ee5751b2a5e7a728f", func := "loop.example/g01140/laws.FnExactMultiplierCluster", spec := "fnExactMultiplierCluster", unfollowed := true, recurses := true, apart := false }
def FnExactMultiplierClusterSaid : Prop := fnExactMultiplierClusterRow.holds Try.pinned (OpenSpec.ofChange fnExactMultiplierClusterSpec)

/-- ITS FALSE NEIGHBOUR: 'it returns false'. Refute it at one input. -/
def fnExactMultiplierClusterWrong : ChangeSpec := { name := "fnExactMultiplierCluster", fn := fun _ => fun
  | [d1, d2] => { results := [.lit (.bool false)], args := [d1, d2] }
  | _ => none }
def FnExactMultiplierClusterWrongFalsely : Prop := fnExactMultiplierClusterRow.holds Try.pinned (OpenSpec.ofChange fnExactMultiplierClusterWrong)

/- THE SECOND FORM. 'bulk': how many values and letters a reading holds, each counted each time it is reached (what is shared counts as often as it is met; a slice's spare places count too). A statement '..UptoSaid' is the law's where the arguments, and the package variables that the reading takes, are together of bulk at most 1048576: NARROWER than '..Said'. Prove '..Said' where nothing that the law and all that it calls make is longer than what came in: it says more and counts as full. Else prove '..UptoSaid'. A law counts once. -/
mutual
def uptoBulk {H : Type} : DataW H → Nat
  | .lit (.string bytes) => bytes.length + 1
  | .lit _ => 1
  | .nil => 1
  | .ptr d => uptoBulk d + 1
  | .slice elems spare => uptoBulkAll elems + uptoBulkAll spare + 1
  | .agg parts => uptoBulkAll parts + 1
  | .iface _ d => uptoBulk d + 1
  | .map entries => uptoBulkEntries entries + 1
  | .held _ => 1
def uptoBulkAll {H : Type} : List (DataW H) → Nat
  | [] => 0
  | d :: r => uptoBulk d + uptoBulkAll r
def uptoBulkEntries {H : Type} : List (Lit × DataW H) → Nat
  | [] => 0
  | x :: r => uptoBulkEntry x + uptoBulkEntries r
def uptoBulkEntry {H : Type} : Lit × DataW H → Nat
  | (.string bytes, d) => bytes.length + uptoBulk d + 1
  | (_, d) => uptoBulk d + 1
 end
def uptoSmall : (H : Type) → List (DataW H) → Bool := fun _ ds => decide (uptoBulkAll ds ≤ 1048576)
def OpenSpec.upto (s : _root_.Go.ChangeSpec) : _root_.Go.OpenSpec := { _root_.Go.OpenSpec.ofChange s with cond := some uptoSmall }

/-- 'laws.FnExactThresholdOfBranch', WHERE WHAT IT READS IS OF BULK AT MOST 1048576: true; the input reads as it did. -/
def fnExactThresholdOfBranchUptoRow : OpenClaim := { program := "ythfdkigljbdogaa", sum := "7fd4b73d38fba587e66c9d63d0ef4aa13e1eb12b9d0bc02ee5751b2a5e7a728f", func := "loop.example/g01140/laws.FnExactThresholdOfBranch", spec := "fnExactThresholdOfBranch", apart := false, narrowed := true }
def FnExactThresholdOfBranchUptoSaid : Prop := fnExactThresholdOfBranchUptoRow.holds Try.pinned (OpenSpec.upto fnExactThresholdOfBranchSpec)

/-- 'laws.FnExactBranchOfGenerators', WHERE WHAT IT READS IS OF BULK AT MOST 1048576: true; the input reads as it did. -/
def fnExactBranchOfGeneratorsUptoRow : OpenClaim := { program := "ythfdkigljbdogaa", sum := "7fd4b73d38fba587e66c9d63d0ef4aa13e1eb12b9d0bc02ee5751b2a5e7a728f", func := "loop.example/g01140/laws.FnExactBranchOfGenerators", spec := "fnExactBranchOfGenerators", apart := false, narrowed := true }
def FnExactBranchOfGeneratorsUptoSaid : Prop := fnExactBranchOfGeneratorsUptoRow.holds Try.pinned (OpenSpec.upto fnExactBranchOfGeneratorsSpec)

/-- 'laws.FnExactExcessesOf', WHERE WHAT IT READS IS OF BULK AT MOST 1048576: true; the input reads as it did. -/
def fnExactExcessesOfUptoRow : OpenClaim := { program := "ythfdkigljbdogaa", sum := "7fd4b73d38fba587e66c9d63d0ef4aa13e1eb12b9d0bc02ee5751b2a5e7a728f", func := "loop.example/g01140/laws.FnExactExcessesOf", spec := "fnExactExcessesOf", apart := false, narrowed := true }
def FnExactExcessesOfUptoSaid : Prop := fnExactExcessesOfUptoRow.holds Try.pinned (OpenSpec.upto fnExactExcessesOfSpec)

/-- 'laws.FnExactPointDiscrepancies', WHERE WHAT IT READS IS OF BULK AT MOST 1048576: true; the input reads as it did. -/
def fnExactPointDiscrepanciesUptoRow : OpenClaim := { program := "ythfdkigljbdogaa", sum := "7fd4b73d38fba587e66c9d63d0ef4aa13e1eb12b9d0bc02ee5751b2a5e7a728f", func := "loop.example/g01140/laws.FnExactPointDiscrepancies", spec := "fnExactPointDiscrepancies", unfollowed := true, recurses := true, apart := false, narrowed := true }
def FnExactPointDiscrepanciesUptoSaid : Prop := fnExactPointDiscrepanciesUptoRow.holds Try.pinned (OpenSpec.upto fnExactPointDiscrepanciesSpec)

/-- 'laws.FnExactProximityMatrix', WHERE WHAT IT READS IS OF BULK AT MOST 1048576: true; the input reads as it did. -/
def fnExactProximityMatrixUptoRow : OpenClaim := { program := "ythfdkigljbdogaa", sum := "7fd4b73d38fba587e66c9d63d0ef4aa13e1eb12b9d0bc02ee5751b2a5e7a728f", func := "loop.example/g01140/laws.FnExactProximityMatrix", spec := "fnExactProximityMatrix", apart := false, narrowed := true }
def FnExactProximityMatrixUptoSaid : Prop := fnExactProximityMatrixUptoRow.holds Try.pinned (OpenSpec.upto fnExactProximityMatrixSpec)

/-- 'laws.FnExactInverseProximity', WHERE WHAT IT READS IS OF BULK AT MOST 1048576: true; the input reads as it did. -/
def fnExactInverseProximityUptoRow : OpenClaim := { program := "ythfdkigljbdogaa", sum := "7fd4b73d38fba587e66c9d63d0ef4aa13e1eb12b9d0bc02ee5751b2a5e7a728f", func := "loop.example/g01140/laws.FnExactInverseProximity", spec := "fnExactInverseProximity", apart := false, narrowed := true }
def FnExactInverseProximityUptoSaid : Prop := fnExactInverseProximityUptoRow.holds Try.pinned (OpenSpec.upto fnExactInverseProximitySpec)

/-- 'laws.FnExactSemigroupBinomials', WHERE WHAT IT READS IS OF BULK AT MOST 1048576: true; the input reads as it did. -/
def fnExactSemigroupBinomialsUptoRow : OpenClaim := { program := "ythfdkigljbdogaa", sum := "7fd4b73d38fba587e66c9d63d0ef4aa13e1eb12b9d0bc02ee5751b2a5e7a728f", func := "loop.example/g01140/laws.FnExactSemigroupBinomials", spec := "fnExactSemigroupBinomials", apart := false, narrowed := true }
def FnExactSemigroupBinomialsUptoSaid : Prop := fnExactSemigroupBinomialsUptoRow.holds Try.pinned (OpenSpec.upto fnExactSemigroupBinomialsSpec)

/-- 'laws.FnExactSimpleCluster', WHERE WHAT IT READS IS OF BULK AT MOST 1048576: true; the input reads as it did. -/
def fnExactSimpleClusterUptoRow : OpenClaim := { program := "ythfdkigljbdogaa", sum := "7fd4b73d38fba587e66c9d63d0ef4aa13e1eb12b9d0bc02ee5751b2a5e7a728f", func := "loop.example/g01140/laws.FnExactSimpleCluster", spec := "fnExactSimpleCluster", apart := false, narrowed := true }
def FnExactSimpleClusterUptoSaid : Prop := fnExactSimpleClusterUptoRow.holds Try.pinned (OpenSpec.upto fnExactSimpleClusterSpec)

/-- 'laws.FnExactClusterOfOrders', WHERE WHAT IT READS IS OF BULK AT MOST 1048576: true; the input reads as it did. -/
def fnExactClusterOfOrdersUptoRow : OpenClaim := { program := "ythfdkigljbdogaa", sum := "7fd4b73d38fba587e66c9d63d0ef4aa13e1eb12b9d0bc02ee5751b2a5e7a728f", func := "loop.example/g01140/laws.FnExactClusterOfOrders", spec := "fnExactClusterOfOrders", apart := false, narrowed := true }
def FnExactClusterOfOrdersUptoSaid : Prop := fnExactClusterOfOrdersUptoRow.holds Try.pinned (OpenSpec.upto fnExactClusterOfOrdersSpec)

/-- 'laws.FnExactAddClusters', WHERE WHAT IT READS IS OF BULK AT MOST 1048576: true; the input reads as it did. -/
def fnExactAddClustersUptoRow : OpenClaim := { program := "ythfdkigljbdogaa", sum := "7fd4b73d38fba587e66c9d63d0ef4aa13e1eb12b9d0bc02ee5751b2a5e7a728f", func := "loop.example/g01140/laws.FnExactAddClusters", spec := "fnExactAddClusters", apart := false, narrowed := true }
def FnExactAddClustersUptoSaid : Prop := fnExactAddClustersUptoRow.holds Try.pinned (OpenSpec.upto fnExactAddClustersSpec)

/-- 'laws.FnExactClusterOfExcesses', WHERE WHAT IT READS IS OF BULK AT MOST 1048576: true; the input reads as it did. -/
def fnExactClusterOfExcessesUptoRow : OpenClaim := { program := "ythfdkigljbdogaa", sum := "7fd4b73d38fba587e66c9d63d0ef4aa13e1eb12b9d0bc02ee5751b2a5e7a728f", func := "loop.example/g01140/laws.FnExactClusterOfExcesses", spec := "fnExactClusterOfExcesses", apart := false, narrowed := true }
def FnExactClusterOfExcessesUptoSaid : Prop := fnExactClusterOfExcessesUptoRow.holds Try.pinned (OpenSpec.upto fnExactClusterOfExcessesSpec)

/-- 'laws.FnExactExceptionalMatrix', WHERE WHAT IT READS IS OF BULK AT MOST 1048576: true; the input reads as it did. -/
def fnExactExceptionalMatrixUptoRow : OpenClaim := { program := "ythfdkigljbdogaa", sum := "7fd4b73d38fba587e66c9d63d0ef4aa13e1eb12b9d0bc02ee5751b2a5e7a728f", func := "loop.example/g01140/laws.FnExactExceptionalMatrix", spec := "fnExactExceptionalMatrix", apart := false, narrowed := true }
def FnExactExceptionalMatrixUptoSaid : Prop := fnExactExceptionalMatrixUptoRow.holds Try.pinned (OpenSpec.upto fnExactExceptionalMatrixSpec)

/-- 'laws.FnExactFactorsOf', WHERE WHAT IT READS IS OF BULK AT MOST 1048576: true; the input reads as it did. -/
def fnExactFactorsOfUptoRow : OpenClaim := { program := "ythfdkigljbdogaa", sum := "7fd4b73d38fba587e66c9d63d0ef4aa13e1eb12b9d0bc02ee5751b2a5e7a728f", func := "loop.example/g01140/laws.FnExactFactorsOf", spec := "fnExactFactorsOf", apart := false, narrowed := true }
def FnExactFactorsOfUptoSaid : Prop := fnExactFactorsOfUptoRow.holds Try.pinned (OpenSpec.upto fnExactFactorsOfSpec)

/-- 'laws.FnExactUnloadStep', WHERE WHAT IT READS IS OF BULK AT MOST 1048576: true; the input reads as it did. -/
def fnExactUnloadStepUptoRow : OpenClaim := { program := "ythfdkigljbdogaa", sum := "7fd4b73d38fba587e66c9d63d0ef4aa13e1eb12b9d0bc02ee5751b2a5e7a728f", func := "loop.example/g01140/laws.FnExactUnloadStep", spec := "fnExactUnloadStep", unfollowed := true, recurses := true, apart := false, narrowed := true }
def FnExactUnloadStepUptoSaid : Prop := fnExactUnloadStepUptoRow.holds Try.pinned (OpenSpec.upto fnExactUnloadStepSpec)

/-- 'laws.FnExactUnloadCluster', WHERE WHAT IT READS IS OF BULK AT MOST 1048576: true; the input reads as it did. -/
def fnExactUnloadClusterUptoRow : OpenClaim := { program := "ythfdkigljbdogaa", sum := "7fd4b73d38fba587e66c9d63d0ef4aa13e1eb12b9d0bc02ee5751b2a5e7a728f", func := "loop.example/g01140/laws.FnExactUnloadCluster", spec := "fnExactUnloadCluster", apart := false, narrowed := true }
def FnExactUnloadClusterUptoSaid : Prop := fnExactUnloadClusterUptoRow.holds Try.pinned (OpenSpec.upto fnExactUnloadClusterSpec)

/-- 'laws.FnExactCodimensionOf', WHERE WHAT IT READS IS OF BULK AT MOST 1048576: true; the input reads as it did. -/
def fnExactCodimensionOfUptoRow : OpenClaim := { program := "ythfdkigljbdogaa", sum := "7fd4b73d38fba587e66c9d63d0ef4aa13e1eb12b9d0bc02ee5751b2a5e7a728f", func := "loop.example/g01140/laws.FnExactCodimensionOf", spec := "fnExactCodimensionOf", apart := false, narrowed := true }
def FnExactCodimensionOfUptoSaid : Prop := fnExactCodimensionOfUptoRow.holds Try.pinned (OpenSpec.upto fnExactCodimensionOfSpec)

/-- 'laws.FnExactSquareOfCluster', WHERE WHAT IT READS IS OF BULK AT MOST 1048576: true; the input reads as it did. -/
def fnExactSquareOfClusterUptoRow : OpenClaim := { program := "ythfdkigljbdogaa", sum := "7fd4b73d38fba587e66c9d63d0ef4aa13e1eb12b9d0bc02ee5751b2a5e7a728f", func := "loop.example/g01140/laws.FnExactSquareOfCluster", spec := "fnExactSquareOfCluster", apart := false, narrowed := true }
def FnExactSquareOfClusterUptoSaid : Prop := fnExactSquareOfClusterUptoRow.holds Try.pinned (OpenSpec.upto fnExactSquareOfClusterSpec)

/-- 'laws.FnExactMixedProduct', WHERE WHAT IT READS IS OF BULK AT MOST 1048576: true; the input reads as it did. -/
def fnExactMixedProductUptoRow : OpenClaim := { program := "ythfdkigljbdogaa", sum := "7fd4b73d38fba587e66c9d63d0ef4aa13e1eb12b9d0bc02ee5751b2a5e7a728f", func := "loop.example/g01140/laws.FnExactMixedProduct", spec := "fnExactMixedProduct", apart := false, narrowed := true }
def FnExactMixedProductUptoSaid : Prop := fnExactMixedProductUptoRow.holds Try.pinned (OpenSpec.upto fnExactMixedProductSpec)

/-- 'laws.FnExactLeastThreshold', WHERE WHAT IT READS IS OF BULK AT MOST 1048576: true; the input reads as it did. -/
def fnExactLeastThresholdUptoRow : OpenClaim := { program := "ythfdkigljbdogaa", sum := "7fd4b73d38fba587e66c9d63d0ef4aa13e1eb12b9d0bc02ee5751b2a5e7a728f", func := "loop.example/g01140/laws.FnExactLeastThreshold", spec := "fnExactLeastThreshold", unfollowed := true, recurses := true, apart := false, narrowed := true }
def FnExactLeastThresholdUptoSaid : Prop := fnExactLeastThresholdUptoRow.holds Try.pinned (OpenSpec.upto fnExactLeastThresholdSpec)

/-- 'laws.FnExactMultiplierCluster', WHERE WHAT IT READS IS OF BULK AT MOST 1048576: true; the input reads as it did. -/
def fnExactMultiplierClusterUptoRow : OpenClaim := { program := "ythfdkigljbdogaa", sum := "7fd4b73d38fba587e66c9d63d0ef4aa13e1eb12b9d0bc02ee5751b2a5e7a728f", func := "loop.example/g01140/laws.FnExactMultiplierCluster", spec := "fnExactMultiplierCluster", unfollowed := true, recurses := true, apart := false, narrowed := true }
def FnExactMultiplierClusterUptoSaid : Prop := fnExactMultiplierClusterUptoRow.holds Try.pinned (OpenSpec.upto fnExactMultiplierClusterSpec)

end Rows
end Go.Proofs.Ythfdkigljbdogaa
