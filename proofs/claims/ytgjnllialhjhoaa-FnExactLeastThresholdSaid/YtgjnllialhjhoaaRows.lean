/-
  No cell of these rows narrows 'for every input' (looked for: loops, veiled, ifaces, maps, wideKeys, modest, calm, conditions, laid).
  DERIVED. THE GIVEN ROWS OF THIS SEAT. 16 by the template 'for every input the law returns true; each argument reads behind the call as it read before'; 0 by the template 'total and deterministic' (their statements: YtgjnllialhjhoaaTotals.lean).
  GIVEN WITH THE SEED: the statements are not yours to turn. If you find one false, say at which input.
  Laid BY PROGRAM, IN A SANDBOX (cutbox-rows.mjs): the forced cells as the released guide's own fill.sh prints them over the translation 9eebc80e48673a5e… (all of the seat's roots in one cut). By AI agents, Wed Nov 11 2026. No macro, syntax, notation, axiom, sorry.
-/
import Derived.Test.YtgjnllialhjhoaaChecked
import GoSem.Claim
import GoSem.ClaimJoined
import GoSem.ClaimMapViews
import Derived.JoinedTies
import Derived.KernelRfl
namespace Go.Proofs.Ytgjnllialhjhoaa
/- THE CELL 'sum', in the pinned program and in every row, IS THE sha256 OF THE DUMP (.gsa) THAT YtgjnllialhjhoaaProg.lean LOADS. Nothing in Lean hashes anything: it is a label: what it is worth is what the hold of that sum in a sandbox is worth. -/
noncomputable def Try.pinned : Pinned := { name := "ytgjnllialhjhoaa", sum := "9eebc80e48673a5e8e177d3da37b9d9a5d5e0eb5fc6e868d7f1be8d5e270d97f", checked := Try.checked }
namespace Rows
def none {H : Type} : Left H := { results := [], args := [] }

/-- 'laws.FnExactBranchOfGenerators': WHATEVER THE INPUT: true; the input reads as it did. -/
def fnExactBranchOfGeneratorsSpec : ChangeSpec := { name := "fnExactBranchOfGenerators", fn := fun _ => fun
  | [d] => { results := [.lit (.bool true)], args := [d] }
  | _ => none }
def fnExactBranchOfGeneratorsRow : OpenClaim := { program := "ytgjnllialhjhoaa", sum := "9eebc80e48673a5e8e177d3da37b9d9a5d5e0eb5fc6e868d7f1be8d5e270d97f", func := "loop.example/g01140/laws.FnExactBranchOfGenerators", spec := "fnExactBranchOfGenerators", apart := false }
def FnExactBranchOfGeneratorsSaid : Prop := fnExactBranchOfGeneratorsRow.holds Try.pinned (OpenSpec.ofChange fnExactBranchOfGeneratorsSpec)

/-- ITS FALSE NEIGHBOUR: 'it returns false'. Refute it at one input. -/
def fnExactBranchOfGeneratorsWrong : ChangeSpec := { name := "fnExactBranchOfGenerators", fn := fun _ => fun
  | [d] => { results := [.lit (.bool false)], args := [d] }
  | _ => none }
def FnExactBranchOfGeneratorsWrongFalsely : Prop := fnExactBranchOfGeneratorsRow.holds Try.pinned (OpenSpec.ofChange fnExactBranchOfGeneratorsWrong)

/-- 'laws.FnExactIsValue': WHATEVER THE INPUT: true; the input reads as it did. -/
def fnExactIsValueSpec : ChangeSpec := { name := "fnExactIsValue", fn := fun _ => fun
  | [d1, d2] => { results := [.lit (.bool true)], args := [d1, d2] }
  | _ => none }
def fnExactIsValueRow : OpenClaim := { program := "ytgjnllialhjhoaa", sum := "9eebc80e48673a5e8e177d3da37b9d9a5d5e0eb5fc6e868d7f1be8d5e270d97f", func := "loop.example/g01140/laws.FnExactIsValue", spec := "fnExactIsValue", unfollowed := true, recurses := true, apart := false }
def FnExactIsValueSaid : Prop := fnExactIsValueRow.holds Try.pinned (OpenSpec.ofChange fnExactIsValueSpec)

/-- ITS FALSE NEIGHBOUR: 'it returns false'. Refute it at one input. -/
def fnExactIsValueWrong : ChangeSpec := { name := "fnExactIsValue", fn := fun _ => fun
  | [d1, d2] => { results := [.lit (.bool false)], args := [d1, d2] }
  | _ => none }
def FnExactIsValueWrongFalsely : Prop := fnExactIsValueRow.holds Try.pinned (OpenSpec.ofChange fnExactIsValueWrong)

/-- 'laws.FnExactAperyOf': WHATEVER THE INPUT: true; the input reads as it did. -/
def fnExactAperyOfSpec : ChangeSpec := { name := "fnExactAperyOf", fn := fun _ => fun
  | [d] => { results := [.lit (.bool true)], args := [d] }
  | _ => none }
def fnExactAperyOfRow : OpenClaim := { program := "ytgjnllialhjhoaa", sum := "9eebc80e48673a5e8e177d3da37b9d9a5d5e0eb5fc6e868d7f1be8d5e270d97f", func := "loop.example/g01140/laws.FnExactAperyOf", spec := "fnExactAperyOf", unfollowed := true, recurses := true, apart := false }
def FnExactAperyOfSaid : Prop := fnExactAperyOfRow.holds Try.pinned (OpenSpec.ofChange fnExactAperyOfSpec)

/-- ITS FALSE NEIGHBOUR: 'it returns false'. Refute it at one input. -/
def fnExactAperyOfWrong : ChangeSpec := { name := "fnExactAperyOf", fn := fun _ => fun
  | [d] => { results := [.lit (.bool false)], args := [d] }
  | _ => none }
def FnExactAperyOfWrongFalsely : Prop := fnExactAperyOfRow.holds Try.pinned (OpenSpec.ofChange fnExactAperyOfWrong)

/-- 'laws.FnExactSemigroupBinomials': WHATEVER THE INPUT: true; the input reads as it did. -/
def fnExactSemigroupBinomialsSpec : ChangeSpec := { name := "fnExactSemigroupBinomials", fn := fun _ => fun
  | [d] => { results := [.lit (.bool true)], args := [d] }
  | _ => none }
def fnExactSemigroupBinomialsRow : OpenClaim := { program := "ytgjnllialhjhoaa", sum := "9eebc80e48673a5e8e177d3da37b9d9a5d5e0eb5fc6e868d7f1be8d5e270d97f", func := "loop.example/g01140/laws.FnExactSemigroupBinomials", spec := "fnExactSemigroupBinomials", apart := false }
def FnExactSemigroupBinomialsSaid : Prop := fnExactSemigroupBinomialsRow.holds Try.pinned (OpenSpec.ofChange fnExactSemigroupBinomialsSpec)

/-- ITS FALSE NEIGHBOUR: 'it returns false'. Refute it at one input. -/
def fnExactSemigroupBinomialsWrong : ChangeSpec := { name := "fnExactSemigroupBinomials", fn := fun _ => fun
  | [d] => { results := [.lit (.bool false)], args := [d] }
  | _ => none }
def FnExactSemigroupBinomialsWrongFalsely : Prop := fnExactSemigroupBinomialsRow.holds Try.pinned (OpenSpec.ofChange fnExactSemigroupBinomialsWrong)

/-- 'laws.FnExactRepresentationOf': WHATEVER THE INPUT: true; the input reads as it did. -/
def fnExactRepresentationOfSpec : ChangeSpec := { name := "fnExactRepresentationOf", fn := fun _ => fun
  | [d1, d2] => { results := [.lit (.bool true)], args := [d1, d2] }
  | _ => none }
def fnExactRepresentationOfRow : OpenClaim := { program := "ytgjnllialhjhoaa", sum := "9eebc80e48673a5e8e177d3da37b9d9a5d5e0eb5fc6e868d7f1be8d5e270d97f", func := "loop.example/g01140/laws.FnExactRepresentationOf", spec := "fnExactRepresentationOf", unfollowed := true, recurses := true, apart := false }
def FnExactRepresentationOfSaid : Prop := fnExactRepresentationOfRow.holds Try.pinned (OpenSpec.ofChange fnExactRepresentationOfSpec)

/-- ITS FALSE NEIGHBOUR: 'it returns false'. Refute it at one input. -/
def fnExactRepresentationOfWrong : ChangeSpec := { name := "fnExactRepresentationOf", fn := fun _ => fun
  | [d1, d2] => { results := [.lit (.bool false)], args := [d1, d2] }
  | _ => none }
def FnExactRepresentationOfWrongFalsely : Prop := fnExactRepresentationOfRow.holds Try.pinned (OpenSpec.ofChange fnExactRepresentationOfWrong)

/-- 'laws.FnExactValuesUpTo': WHATEVER THE INPUT: true; the input reads as it did. -/
def fnExactValuesUpToSpec : ChangeSpec := { name := "fnExactValuesUpTo", fn := fun _ => fun
  | [d1, d2] => { results := [.lit (.bool true)], args := [d1, d2] }
  | _ => none }
def fnExactValuesUpToRow : OpenClaim := { program := "ytgjnllialhjhoaa", sum := "9eebc80e48673a5e8e177d3da37b9d9a5d5e0eb5fc6e868d7f1be8d5e270d97f", func := "loop.example/g01140/laws.FnExactValuesUpTo", spec := "fnExactValuesUpTo", unfollowed := true, recurses := true, apart := false }
def FnExactValuesUpToSaid : Prop := fnExactValuesUpToRow.holds Try.pinned (OpenSpec.ofChange fnExactValuesUpToSpec)

/-- ITS FALSE NEIGHBOUR: 'it returns false'. Refute it at one input. -/
def fnExactValuesUpToWrong : ChangeSpec := { name := "fnExactValuesUpTo", fn := fun _ => fun
  | [d1, d2] => { results := [.lit (.bool false)], args := [d1, d2] }
  | _ => none }
def FnExactValuesUpToWrongFalsely : Prop := fnExactValuesUpToRow.holds Try.pinned (OpenSpec.ofChange fnExactValuesUpToWrong)

/-- 'laws.FnExactAddClusters': WHATEVER THE INPUT: true; the input reads as it did. -/
def fnExactAddClustersSpec : ChangeSpec := { name := "fnExactAddClusters", fn := fun _ => fun
  | [d1, d2] => { results := [.lit (.bool true)], args := [d1, d2] }
  | _ => none }
def fnExactAddClustersRow : OpenClaim := { program := "ytgjnllialhjhoaa", sum := "9eebc80e48673a5e8e177d3da37b9d9a5d5e0eb5fc6e868d7f1be8d5e270d97f", func := "loop.example/g01140/laws.FnExactAddClusters", spec := "fnExactAddClusters", apart := false }
def FnExactAddClustersSaid : Prop := fnExactAddClustersRow.holds Try.pinned (OpenSpec.ofChange fnExactAddClustersSpec)

/-- ITS FALSE NEIGHBOUR: 'it returns false'. Refute it at one input. -/
def fnExactAddClustersWrong : ChangeSpec := { name := "fnExactAddClusters", fn := fun _ => fun
  | [d1, d2] => { results := [.lit (.bool false)], args := [d1, d2] }
  | _ => none }
def FnExactAddClustersWrongFalsely : Prop := fnExactAddClustersRow.holds Try.pinned (OpenSpec.ofChange fnExactAddClustersWrong)

/-- 'laws.FnExactGapsOf': WHATEVER THE INPUT: true; the input reads as it did. -/
def fnExactGapsOfSpec : ChangeSpec := { name := "fnExactGapsOf", fn := fun _ => fun
  | [d] => { results := [.lit (.bool true)], args := [d] }
  | _ => none }
def fnExactGapsOfRow : OpenClaim := { program := "ytgjnllialhjhoaa", sum := "9eebc80e48673a5e8e177d3da37b9d9a5d5e0eb5fc6e868d7f1be8d5e270d97f", func := "loop.example/g01140/laws.FnExactGapsOf", spec := "fnExactGapsOf", unfollowed := true, recurses := true, apart := false }
def FnExactGapsOfSaid : Prop := fnExactGapsOfRow.holds Try.pinned (OpenSpec.ofChange fnExactGapsOfSpec)

/-- ITS FALSE NEIGHBOUR: 'it returns false'. Refute it at one input. -/
def fnExactGapsOfWrong : ChangeSpec := { name := "fnExactGapsOf", fn := fun _ => fun
  | [d] => { results := [.lit (.bool false)], args := [d] }
  | _ => none }
def FnExactGapsOfWrongFalsely : Prop := fnExactGapsOfRow.holds Try.pinned (OpenSpec.ofChange fnExactGapsOfWrong)

/-- 'laws.FnExactSemigroupPolynomial': WHATEVER THE INPUT: true; the input reads as it did. -/
def fnExactSemigroupPolynomialSpec : ChangeSpec := { name := "fnExactSemigroupPolynomial", fn := fun _ => fun
  | [d] => { results := [.lit (.bool true)], args := [d] }
  | _ => none }
def fnExactSemigroupPolynomialRow : OpenClaim := { program := "ytgjnllialhjhoaa", sum := "9eebc80e48673a5e8e177d3da37b9d9a5d5e0eb5fc6e868d7f1be8d5e270d97f", func := "loop.example/g01140/laws.FnExactSemigroupPolynomial", spec := "fnExactSemigroupPolynomial", unfollowed := true, recurses := true, apart := false }
def FnExactSemigroupPolynomialSaid : Prop := fnExactSemigroupPolynomialRow.holds Try.pinned (OpenSpec.ofChange fnExactSemigroupPolynomialSpec)

/-- ITS FALSE NEIGHBOUR: 'it returns false'. Refute it at one input. -/
def fnExactSemigroupPolynomialWrong : ChangeSpec := { name := "fnExactSemigroupPolynomial", fn := fun _ => fun
  | [d] => { results := [.lit (.bool false)], args := [d] }
  | _ => none }
def FnExactSemigroupPolynomialWrongFalsely : Prop := fnExactSemigroupPolynomialRow.holds Try.pinned (OpenSpec.ofChange fnExactSemigroupPolynomialWrong)

/-- 'laws.FnExactCodimensionOf': WHATEVER THE INPUT: true; the input reads as it did. -/
def fnExactCodimensionOfSpec : ChangeSpec := { name := "fnExactCodimensionOf", fn := fun _ => fun
  | [d] => { results := [.lit (.bool true)], args := [d] }
  | _ => none }
def fnExactCodimensionOfRow : OpenClaim := { program := "ytgjnllialhjhoaa", sum := "9eebc80e48673a5e8e177d3da37b9d9a5d5e0eb5fc6e868d7f1be8d5e270d97f", func := "loop.example/g01140/laws.FnExactCodimensionOf", spec := "fnExactCodimensionOf", apart := false }
def FnExactCodimensionOfSaid : Prop := fnExactCodimensionOfRow.holds Try.pinned (OpenSpec.ofChange fnExactCodimensionOfSpec)

/-- ITS FALSE NEIGHBOUR: 'it returns false'. Refute it at one input. -/
def fnExactCodimensionOfWrong : ChangeSpec := { name := "fnExactCodimensionOf", fn := fun _ => fun
  | [d] => { results := [.lit (.bool false)], args := [d] }
  | _ => none }
def FnExactCodimensionOfWrongFalsely : Prop := fnExactCodimensionOfRow.holds Try.pinned (OpenSpec.ofChange fnExactCodimensionOfWrong)

/-- 'laws.FnExactUnloadStep': WHATEVER THE INPUT: true; the input reads as it did. -/
def fnExactUnloadStepSpec : ChangeSpec := { name := "fnExactUnloadStep", fn := fun _ => fun
  | [d] => { results := [.lit (.bool true)], args := [d] }
  | _ => none }
def fnExactUnloadStepRow : OpenClaim := { program := "ytgjnllialhjhoaa", sum := "9eebc80e48673a5e8e177d3da37b9d9a5d5e0eb5fc6e868d7f1be8d5e270d97f", func := "loop.example/g01140/laws.FnExactUnloadStep", spec := "fnExactUnloadStep", unfollowed := true, recurses := true, apart := false }
def FnExactUnloadStepSaid : Prop := fnExactUnloadStepRow.holds Try.pinned (OpenSpec.ofChange fnExactUnloadStepSpec)

/-- ITS FALSE NEIGHBOUR: 'it returns false'. Refute it at one input. -/
def fnExactUnloadStepWrong : ChangeSpec := { name := "fnExactUnloadStep", fn := fun _ => fun
  | [d] => { results := [.lit (.bool false)], args := [d] }
  | _ => none }
def FnExactUnloadStepWrongFalsely : Prop := fnExactUnloadStepRow.holds Try.pinned (OpenSpec.ofChange fnExactUnloadStepWrong)

/-- 'laws.FnExactUnloadCluster': WHATEVER THE INPUT: true; the input reads as it did. -/
def fnExactUnloadClusterSpec : ChangeSpec := { name := "fnExactUnloadCluster", fn := fun _ => fun
  | [d] => { results := [.lit (.bool true)], args := [d] }
  | _ => none }
def fnExactUnloadClusterRow : OpenClaim := { program := "ytgjnllialhjhoaa", sum := "9eebc80e48673a5e8e177d3da37b9d9a5d5e0eb5fc6e868d7f1be8d5e270d97f", func := "loop.example/g01140/laws.FnExactUnloadCluster", spec := "fnExactUnloadCluster", apart := false }
def FnExactUnloadClusterSaid : Prop := fnExactUnloadClusterRow.holds Try.pinned (OpenSpec.ofChange fnExactUnloadClusterSpec)

/-- ITS FALSE NEIGHBOUR: 'it returns false'. Refute it at one input. -/
def fnExactUnloadClusterWrong : ChangeSpec := { name := "fnExactUnloadCluster", fn := fun _ => fun
  | [d] => { results := [.lit (.bool false)], args := [d] }
  | _ => none }
def FnExactUnloadClusterWrongFalsely : Prop := fnExactUnloadClusterRow.holds Try.pinned (OpenSpec.ofChange fnExactUnloadClusterWrong)

/-- 'laws.FnExactSquareOfCluster': WHATEVER THE INPUT: true; the input reads as it did. -/
def fnExactSquareOfClusterSpec : ChangeSpec := { name := "fnExactSquareOfCluster", fn := fun _ => fun
  | [d] => { results := [.lit (.bool true)], args := [d] }
  | _ => none }
def fnExactSquareOfClusterRow : OpenClaim := { program := "ytgjnllialhjhoaa", sum := "9eebc80e48673a5e8e177d3da37b9d9a5d5e0eb5fc6e868d7f1be8d5e270d97f", func := "loop.example/g01140/laws.FnExactSquareOfCluster", spec := "fnExactSquareOfCluster", apart := false }
def FnExactSquareOfClusterSaid : Prop := fnExactSquareOfClusterRow.holds Try.pinned (OpenSpec.ofChange fnExactSquareOfClusterSpec)

/-- ITS FALSE NEIGHBOUR: 'it returns false'. Refute it at one input. -/
def fnExactSquareOfClusterWrong : ChangeSpec := { name := "fnExactSquareOfCluster", fn := fun _ => fun
  | [d] => { results := [.lit (.bool false)], args := [d] }
  | _ => none }
def FnExactSquareOfClusterWrongFalsely : Prop := fnExactSquareOfClusterRow.holds Try.pinned (OpenSpec.ofChange fnExactSquareOfClusterWrong)

/-- 'laws.FnExactLeastThreshold': WHATEVER THE INPUT: true; the input reads as it did. -/
def fnExactLeastThresholdSpec : ChangeSpec := { name := "fnExactLeastThreshold", fn := fun _ => fun
  | [d] => { results := [.lit (.bool true)], args := [d] }
  | _ => none }
def fnExactLeastThresholdRow : OpenClaim := { program := "ytgjnllialhjhoaa", sum := "9eebc80e48673a5e8e177d3da37b9d9a5d5e0eb5fc6e868d7f1be8d5e270d97f", func := "loop.example/g01140/laws.FnExactLeastThreshold", spec := "fnExactLeastThreshold", unfollowed := true, recurses := true, apart := false }
def FnExactLeastThresholdSaid : Prop := fnExactLeastThresholdRow.holds Try.pinned (OpenSpec.ofChange fnExactLeastThresholdSpec)

/-- ITS FALSE NEIGHBOUR: 'it returns false'. Refute it at one input. -/
def fnExactLeastThresholdWrong : ChangeSpec := { name := "fnExactLeastThreshold", fn := fun _ => fun
  | [d] => { results := [.lit (.bool false)], args := [d] }
  | _ => none }
def FnExactLeastThresholdWrongFalsely : Prop := fnExactLeastThresholdRow.holds Try.pinned (OpenSpec.ofChange fnExactLeastThresholdWrong)

/-- 'laws.FnExactMixedProduct': WHATEVER THE INPUT: true; the input reads as it did. -/
def fnExactMixedProductSpec : ChangeSpec := { name := "fnExactMixedProduct", fn := fun _ => fun
  | [d1, d2] => { results := [.lit (.bool true)], args := [d1, d2] }
  | _ => none }
def fnExactMixedProductRow : OpenClaim := { program := "ytgjnllialhjhoaa", sum := "9eebc80e48673a5e8e177d3da37b9d9a5d5e0eb5fc6e868d7f1be8d5e270d97f", func := "loop.example/g01140/laws.FnExactMixedProduct", spec := "fnExactMixedProduct", apart := false }
def FnExactMixedProductSaid : Prop := fnExactMixedProductRow.holds Try.pinned (OpenSpec.ofChange fnExactMixedProductSpec)

/-- ITS FALSE NEIGHBOUR: 'it returns false'. Refute it at one input. -/
def fnExactMixedProductWrong : ChangeSpec := { name := "fnExactMixedProduct", fn := fun _ => fun
  | [d1, d2] => { results := [.lit (.bool false)], args := [d1, d2] }
  | _ => none }
def FnExactMixedProductWrongFalsely : Prop := fnExactMixedProductRow.holds Try.pinned (OpenSpec.ofChange fnExactMixedProductWrong)

/-- 'laws.FnExactMultiplierCluster': WHATEVER THE INPUT: true; the input reads as it did. -/
def fnExactMultiplierClusterSpec : ChangeSpec := { name := "fnExactMultiplierCluster", fn := fun _ => fun
  | [d1, d2] => { results := [.lit (.bool true)], args := [d1, d2] }
  | _ => none }
def fnExactMultiplierClusterRow : OpenClaim := { program := "ytgjnllialhjhoaa", sum := "9eebc80e48673a5e8e177d3da37b9d9a5d5e0eb5fc6e868d7f1be8d5e270d97f", func := "loop.example/g01140/laws.FnExactMultiplierCluster", spec := "fnExactMultiplierCluster", unfollowed := true, recurses := true, apart := false }
def FnExactMultiplierClusterSaid : Prop := fnExactMultiplierClusterRow.holds Try.pinned (OpenSpec.ofChange fnExactMultiplierClusterSpec)

/-- ITS FALSE NEIGHBOUR: 'it returns false'. Refute it at one input. -/
def fnExactMultiplierClusterWrong : ChangeSpec := { name := "fnExactMultiplierCluster", fn := fun _ => fun
  | [d1, d2] => { results := [.lit (.bool false)], args := [d1, d2] }
  | _ => none }
def FnExactMultiplierClusterWrongFalsely : Prop := fnExactMultiplierClusterRow.holds Try.pinned (OpenSpec.ofChange fnExactMultiplierClusterWrong)

/- THE SECOND FORM. 'bulk': how many values and letters a reading holds, each counted each time it is reached (what is shared counts as often as it is met; a slice's spare places count too). A statement '..UptoSaid' is the law's where the arguments, and the package variables that the reading takes, are together of bulk at most 1048576: NARROWER than '..Said'. Prove '..Said' where nothing that the law and all that it calls make is longer than what came in: it says more and counts as full. Else prove '..UptoSaid'. A law counts once. -/
mutual
def uptoBulk {H : Type} : DataW H → Nat
  | .lit (.string bytes) => bytes.length + 1
  | .lit _ => 1
  | .nil => 1
  | .ptr d => uptoBulk d + 1
  | .slice elems spare => uptoBulkAll elems + uptoBulkAll spare + 1
  | .agg parts => uptoBulkAll parts + 1
  | .iface _ d => uptoBulk d + 1
  | .map entries => uptoBulkEntries entries + 1
  | .held _ => 1
def uptoBulkAll {H : Type} : List (DataW H) → Nat
  | [] => 0
  | d :: r => uptoBulk d + uptoBulkAll r
def uptoBulkEntries {H : Type} : List (Lit × DataW H) → Nat
  | [] => 0
  | x :: r => uptoBulkEntry x + uptoBulkEntries r
def uptoBulkEntry {H : Type} : Lit × DataW H → Nat
  | (.string bytes, d) => bytes.length + uptoBulk d + 1
  | (_, d) => uptoBulk d + 1
 end
def uptoSmall : (H : Type) → List (DataW H) → Bool := fun _ ds => decide (uptoBulkAll ds ≤ 1048576)
def OpenSpec.upto (s : _root_.Go.ChangeSpec) : _root_.Go.OpenSpec := { _root_.Go.OpenSpec.ofChange s with cond := some uptoSmall }

/-- 'laws.FnExactBranchOfGenerators', WHERE WHAT IT READS IS OF BULK AT MOST 1048576: true; the input reads as it did. -/
def fnExactBranchOfGeneratorsUptoRow : OpenClaim := { program := "ytgjnllialhjhoaa", sum := "9eebc80e48673a5e8e177d3da37b9d9a5d5e0eb5fc6e868d7f1be8d5e270d97f", func := "loop.example/g01140/laws.FnExactBranchOfGenerators", spec := "fnExactBranchOfGenerators", apart := false, narrowed := true }
def FnExactBranchOfGeneratorsUptoSaid : Prop := fnExactBranchOfGeneratorsUptoRow.holds Try.pinned (OpenSpec.upto fnExactBranchOfGeneratorsSpec)

/-- 'laws.FnExactIsValue', WHERE WHAT IT READS IS OF BULK AT MOST 1048576: true; the input reads as it did. -/
def fnExactIsValueUptoRow : OpenClaim := { program := "ytgjnllialhjhoaa", sum := "9eebc80e48673a5e8e177d3da37b9d9a5d5e0eb5fc6e868d7f1be8d5e270d97f", func := "loop.example/g01140/laws.FnExactIsValue", spec := "fnExactIsValue", unfollowed := true, recurses := true, apart := false, narrowed := true }
def FnExactIsValueUptoSaid : Prop := fnExactIsValueUptoRow.holds Try.pinned (OpenSpec.upto fnExactIsValueSpec)

/-- 'laws.FnExactAperyOf', WHERE WHAT IT READS IS OF BULK AT MOST 1048576: true; the input reads as it did. -/
def fnExactAperyOfUptoRow : OpenClaim := { program := "ytgjnllialhjhoaa", sum := "9eebc80e48673a5e8e177d3da37b9d9a5d5e0eb5fc6e868d7f1be8d5e270d97f", func := "loop.example/g01140/laws.FnExactAperyOf", spec := "fnExactAperyOf", unfollowed := true, recurses := true, apart := false, narrowed := true }
def FnExactAperyOfUptoSaid : Prop := fnExactAperyOfUptoRow.holds Try.pinned (OpenSpec.upto fnExactAperyOfSpec)

/-- 'laws.FnExactSemigroupBinomials', WHERE WHAT IT READS IS OF BULK AT MOST 1048576: true; the input reads as it did. -/
def fnExactSemigroupBinomialsUptoRow : OpenClaim := { program := "ytgjnllialhjhoaa", sum := "9eebc80e48673a5e8e177d3da37b9d9a5d5e0eb5fc6e868d7f1be8d5e270d97f", func := "loop.example/g01140/laws.FnExactSemigroupBinomials", spec := "fnExactSemigroupBinomials", apart := false, narrowed := true }
def FnExactSemigroupBinomialsUptoSaid : Prop := fnExactSemigroupBinomialsUptoRow.holds Try.pinned (OpenSpec.upto fnExactSemigroupBinomialsSpec)

/-- 'laws.FnExactRepresentationOf', WHERE WHAT IT READS IS OF BULK AT MOST 1048576: true; the input reads as it did. -/
def fnExactRepresentationOfUptoRow : OpenClaim := { program := "ytgjnllialhjhoaa", sum := "9eebc80e48673a5e8e177d3da37b9d9a5d5e0eb5fc6e868d7f1be8d5e270d97f", func := "loop.example/g01140/laws.FnExactRepresentationOf", spec := "fnExactRepresentationOf", unfollowed := true, recurses := true, apart := false, narrowed := true }
def FnExactRepresentationOfUptoSaid : Prop := fnExactRepresentationOfUptoRow.holds Try.pinned (OpenSpec.upto fnExactRepresentationOfSpec)

/-- 'laws.FnExactValuesUpTo', WHERE WHAT IT READS IS OF BULK AT MOST 1048576: true; the input reads as it did. -/
def fnExactValuesUpToUptoRow : OpenClaim := { program := "ytgjnllialhjhoaa", sum := "9eebc80e48673a5e8e177d3da37b9d9a5d5e0eb5fc6e868d7f1be8d5e270d97f", func := "loop.example/g01140/laws.FnExactValuesUpTo", spec := "fnExactValuesUpTo", unfollowed := true, recurses := true, apart := false, narrowed := true }
def FnExactValuesUpToUptoSaid : Prop := fnExactValuesUpToUptoRow.holds Try.pinned (OpenSpec.upto fnExactValuesUpToSpec)

/-- 'laws.FnExactAddClusters', WHERE WHAT IT READS IS OF BULK AT MOST 1048576: true; the input reads as it did. -/
def fnExactAddClustersUptoRow : OpenClaim := { program := "ytgjnllialhjhoaa", sum := "9eebc80e48673a5e8e177d3da37b9d9a5d5e0eb5fc6e868d7f1be8d5e270d97f", func := "loop.example/g01140/laws.FnExactAddClusters", spec := "fnExactAddClusters", apart := false, narrowed := true }
def FnExactAddClustersUptoSaid : Prop := fnExactAddClustersUptoRow.holds Try.pinned (OpenSpec.upto fnExactAddClustersSpec)

/-- 'laws.FnExactGapsOf', WHERE WHAT IT READS IS OF BULK AT MOST 1048576: true; the input reads as it did. -/
def fnExactGapsOfUptoRow : OpenClaim := { program := "ytgjnllialhjhoaa", sum := "9eebc80e48673a5e8e177d3da37b9d9a5d5e0eb5fc6e868d7f1be8d5e270d97f", func := "loop.example/g01140/laws.FnExactGapsOf", spec := "fnExactGapsOf", unfollowed := true, recurses := true, apart := false, narrowed := true }
def FnExactGapsOfUptoSaid : Prop := fnExactGapsOfUptoRow.holds Try.pinned (OpenSpec.upto fnExactGapsOfSpec)

/-- 'laws.FnExactSemigroupPolynomial', WHERE WHAT IT READS IS OF BULK AT MOST 1048576: true; the input reads as it did. -/
def fnExactSemigroupPolynomialUptoRow : OpenClaim := { program := "ytgjnllialhjhoaa", sum := "9eebc80e48673a5e8e177d3da37b9d9a5d5e0eb5fc6e868d7f1be8d5e270d97f", func := "loop.example/g01140/laws.FnExactSemigroupPolynomial", spec := "fnExactSemigroupPolynomial", unfollowed := true, recurses := true, apart := false, narrowed := true }
def FnExactSemigroupPolynomialUptoSaid : Prop := fnExactSemigroupPolynomialUptoRow.holds Try.pinned (OpenSpec.upto fnExactSemigroupPolynomialSpec)

/-- 'laws.FnExactCodimensionOf', WHERE WHAT IT READS IS OF BULK AT MOST 1048576: true; the input reads as it did. -/
def fnExactCodimensionOfUptoRow : OpenClaim := { program := "ytgjnllialhjhoaa", sum := "9eebc80e48673a5e8e177d3da37b9d9a5d5e0eb5fc6e868d7f1be8d5e270d97f", func := "loop.example/g01140/laws.FnExactCodimensionOf", spec := "fnExactCodimensionOf", apart := false, narrowed := true }
def FnExactCodimensionOfUptoSaid : Prop := fnExactCodimensionOfUptoRow.holds Try.pinned (OpenSpec.upto fnExactCodimensionOfSpec)

/-- 'laws.FnExactUnloadStep', WHERE WHAT IT READS IS OF BULK AT MOST 1048576: true; the input reads as it did. -/
def fnExactUnloadStepUptoRow : OpenClaim := { program := "ytgjnllialhjhoaa", sum := "9eebc80e48673a5e8e177d3da37b9d9a5d5e0eb5fc6e868d7f1be8d5e270d97f", func := "loop.example/g01140/laws.FnExactUnloadStep", spec := "fnExactUnloadStep", unfollowed := true, recurses := true, apart := false, narrowed := true }
def FnExactUnloadStepUptoSaid : Prop := fnExactUnloadStepUptoRow.holds Try.pinned (OpenSpec.upto fnExactUnloadStepSpec)

/-- 'laws.FnExactUnloadCluster', WHERE WHAT IT READS IS OF BULK AT MOST 1048576: true; the input reads as it did. -/
def fnExactUnloadClusterUptoRow : OpenClaim := { program := "ytgjnllialhjhoaa", sum := "9eebc80e48673a5e8e177d3da37b9d9a5d5e0eb5fc6e868d7f1be8d5e270d97f", func := "loop.example/g01140/laws.FnExactUnloadCluster", spec := "fnExactUnloadCluster", apart := false, narrowed := true }
def FnExactUnloadClusterUptoSaid : Prop := fnExactUnloadClusterUptoRow.holds Try.pinned (OpenSpec.upto fnExactUnloadClusterSpec)

/-- 'laws.FnExactSquareOfCluster', WHERE WHAT IT READS IS OF BULK AT MOST 1048576: true; the input reads as it did. -/
def fnExactSquareOfClusterUptoRow : OpenClaim := { program := "ytgjnllialhjhoaa", sum := "9eebc80e48673a5e8e177d3da37b9d9a5d5e0eb5fc6e868d7f1be8d5e270d97f", func := "loop.example/g01140/laws.FnExactSquareOfCluster", spec := "fnExactSquareOfCluster", apart := false, narrowed := true }
def FnExactSquareOfClusterUptoSaid : Prop := fnExactSquareOfClusterUptoRow.holds Try.pinned (OpenSpec.upto fnExactSquareOfClusterSpec)

/-- 'laws.FnExactLeastThreshold', WHERE WHAT IT READS IS OF BULK AT MOST 1048576: true; the input reads as it did. -/
def fnExactLeastThresholdUptoRow : OpenClaim := { program := "ytgjnllialhjhoaa", sum := "9eebc80e48673a5e8e177d3da37b9d9a5d5e0eb5fc6e868d7f1be8d5e270d97f", func := "loop.example/g01140/laws.FnExactLeastThreshold", spec := "fnExactLeastThreshold", unfollowed := true, recurses := true, apart := false, narrowed := true }
def FnExactLeastThresholdUptoSaid : Prop := fnExactLeastThresholdUptoRow.holds Try.pinned (OpenSpec.upto fnExactLeastThresholdSpec)

/-- 'laws.FnExactMixedProduct', WHERE WHAT IT READS IS OF BULK AT MOST 1048576: true; the input reads as it did. -/
def fnExactMixedProductUptoRow : OpenClaim := { program := "ytgjnllialhjhoaa", sum := "9eebc80e48673a5e8e177d3da37b9d9a5d5e0eb5fc6e868d7f1be8d5e270d97f", func := "loop.example/g01140/laws.FnExactMixedProduct", spec := "fnExactMixedProduct", apart := false, narrowed := true }
def FnExactMixedProductUptoSaid : Prop := fnExactMixedProductUptoRow.holds Try.pinned (OpenSpec.upto fnExactMixedProductSpec)

/-- 'laws.FnExactMultiplierCluster', WHERE WHAT IT READS IS OF BULK AT MOST 1048576: true; the input reads as it did. -/
def fnExactMultiplierClusterUptoRow : OpenClaim := { program := "ytgjnllialhjhoaa", sum := "9eebc80e48673a5e8e177d3da37b9d9a5d5e0eb5fc6e868d7f1be8d5e270d97f", func := "loop.example/g01140/laws.FnExactMultiplierCluster", spec := "fnExactMultiplierCluster", unfollowed := true, recurses := true, apart := false, narrowed := true }
def FnExactMultiplierClusterUptoSaid : Prop := fnExactMultiplierClusterUptoRow.holds Try.pinned (OpenSpec.upto fnExactMultiplierClusterSpec)

end Rows
end Go.Proofs.Ytgjnllialhjhoaa
