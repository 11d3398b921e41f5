/-
  No cell of these rows narrows 'for every input' (looked for: loops, veiled, ifaces, maps, wideKeys, modest, calm, conditions, laid).
  DERIVED. THE GIVEN ROWS OF THIS SEAT. 12 by the template 'for every input the law returns true; each argument reads behind the call as it read before'; 0 by the template 'total and deterministic' (their statements: YtlbnnbncikeecaaTotals.lean).
  GIVEN WITH THE SEED: the statements are not yours to turn. If you find one false, say at which input.
  Laid BY PROGRAM, IN A SANDBOX (cutbox-rows.mjs): the forced cells as the released guide's own fill.sh prints them over the translation ccd6b0f64b99a2e5… (all of the seat's roots in one cut). By AI agents, Wed Nov 11 2026. No macro, syntax, notation, axiom, sorry.
-/
import Derived.Test.YtlbnnbncikeecaaChecked
import GoSem.Claim
import GoSem.ClaimJoined
import GoSem.ClaimMapViews
import Derived.JoinedTies
import Derived.KernelRfl
namespace Go.Proofs.Ytlbnnbncikeecaa
/- THE CELL 'sum', in the pinned program and in every row, IS THE sha256 OF THE DUMP (.gsa) THAT YtlbnnbncikeecaaProg.lean LOADS. Nothing in Lean hashes anything: it is a label: what it is worth is what the hold of that sum in a sandbox is worth. -/
noncomputable def Try.pinned : Pinned := { name := "ytlbnnbncikeecaa", sum := "ccd6b0f64b99a2e56e10ec68bb9fa8008deb2455ee6be0553c695920b36b16b9", checked := Try.checked }
namespace Rows
def none {H : Type} : Left H := { results := [], args := [] }

/-- 'laws.FnExactIsCode': WHATEVER THE INPUT: true; the input reads as it did. -/
def fnExactIsCodeSpec : ChangeSpec := { name := "fnExactIsCode", fn := fun _ => fun
  | [d] => { results := [.lit (.bool true)], args := [d] }
  | _ => none }
def fnExactIsCodeRow : OpenClaim := { program := "ytlbnnbncikeecaa", sum := "ccd6b0f64b99a2e56e10ec68bb9fa8008deb2455ee6be0553c695920b36b16b9", func := "loop.example/g01140/laws.FnExactIsCode", spec := "fnExactIsCode", apart := false }
def FnExactIsCodeSaid : Prop := fnExactIsCodeRow.holds Try.pinned (OpenSpec.ofChange fnExactIsCodeSpec)

/-- ITS FALSE NEIGHBOUR: 'it returns false'. Refute it at one input. -/
def fnExactIsCodeWrong : ChangeSpec := { name := "fnExactIsCode", fn := fun _ => fun
  | [d] => { results := [.lit (.bool false)], args := [d] }
  | _ => none }
def FnExactIsCodeWrongFalsely : Prop := fnExactIsCodeRow.holds Try.pinned (OpenSpec.ofChange fnExactIsCodeWrong)

/-- 'laws.FnExactIsCluster': WHATEVER THE INPUT: true; the input reads as it did. -/
def fnExactIsClusterSpec : ChangeSpec := { name := "fnExactIsCluster", fn := fun _ => fun
  | [d] => { results := [.lit (.bool true)], args := [d] }
  | _ => none }
def fnExactIsClusterRow : OpenClaim := { program := "ytlbnnbncikeecaa", sum := "ccd6b0f64b99a2e56e10ec68bb9fa8008deb2455ee6be0553c695920b36b16b9", func := "loop.example/g01140/laws.FnExactIsCluster", spec := "fnExactIsCluster", apart := false }
def FnExactIsClusterSaid : Prop := fnExactIsClusterRow.holds Try.pinned (OpenSpec.ofChange fnExactIsClusterSpec)

/-- ITS FALSE NEIGHBOUR: 'it returns false'. Refute it at one input. -/
def fnExactIsClusterWrong : ChangeSpec := { name := "fnExactIsCluster", fn := fun _ => fun
  | [d] => { results := [.lit (.bool false)], args := [d] }
  | _ => none }
def FnExactIsClusterWrongFalsely : Prop := fnExactIsClusterRow.holds Try.pinned (OpenSpec.ofChange fnExactIsClusterWrong)

/-- 'laws.FnExactDeltaOfCluster': WHATEVER THE INPUT: true; the input reads as it did. -/
def fnExactDeltaOfClusterSpec : ChangeSpec := { name := "fnExactDeltaOfCluster", fn := fun _ => fun
  | [d] => { results := [.lit (.bool true)], args := [d] }
  | _ => none }
def fnExactDeltaOfClusterRow : OpenClaim := { program := "ytlbnnbncikeecaa", sum := "ccd6b0f64b99a2e56e10ec68bb9fa8008deb2455ee6be0553c695920b36b16b9", func := "loop.example/g01140/laws.FnExactDeltaOfCluster", spec := "fnExactDeltaOfCluster", apart := false }
def FnExactDeltaOfClusterSaid : Prop := fnExactDeltaOfClusterRow.holds Try.pinned (OpenSpec.ofChange fnExactDeltaOfClusterSpec)

/-- ITS FALSE NEIGHBOUR: 'it returns false'. Refute it at one input. -/
def fnExactDeltaOfClusterWrong : ChangeSpec := { name := "fnExactDeltaOfCluster", fn := fun _ => fun
  | [d] => { results := [.lit (.bool false)], args := [d] }
  | _ => none }
def FnExactDeltaOfClusterWrongFalsely : Prop := fnExactDeltaOfClusterRow.holds Try.pinned (OpenSpec.ofChange fnExactDeltaOfClusterWrong)

/-- 'laws.FnExactThresholdOfBranch': WHATEVER THE INPUT: true; the input reads as it did. -/
def fnExactThresholdOfBranchSpec : ChangeSpec := { name := "fnExactThresholdOfBranch", fn := fun _ => fun
  | [d] => { results := [.lit (.bool true)], args := [d] }
  | _ => none }
def fnExactThresholdOfBranchRow : OpenClaim := { program := "ytlbnnbncikeecaa", sum := "ccd6b0f64b99a2e56e10ec68bb9fa8008deb2455ee6be0553c695920b36b16b9", func := "loop.example/g01140/laws.FnExactThresholdOfBranch", spec := "fnExactThresholdOfBranch", apart := false }
def FnExactThresholdOfBranchSaid : Prop := fnExactThresholdOfBranchRow.holds Try.pinned (OpenSpec.ofChange fnExactThresholdOfBranchSpec)

/-- ITS FALSE NEIGHBOUR: 'it returns false'. Refute it at one input. -/
def fnExactThresholdOfBranchWrong : ChangeSpec := { name := "fnExactThresholdOfBranch", fn := fun _ => fun
  | [d] => { results := [.lit (.bool false)], args := [d] }
  | _ => none }
def FnExactThresholdOfBranchWrongFalsely : Prop := fnExactThresholdOfBranchRow.holds Try.pinned (OpenSpec.ofChange fnExactThresholdOfBranchWrong)

/-- 'laws.FnExactSatellitesOf': WHATEVER THE INPUT: true; the input reads as it did. -/
def fnExactSatellitesOfSpec : ChangeSpec := { name := "fnExactSatellitesOf", fn := fun _ => fun
  | [d] => { results := [.lit (.bool true)], args := [d] }
  | _ => none }
def fnExactSatellitesOfRow : OpenClaim := { program := "ytlbnnbncikeecaa", sum := "ccd6b0f64b99a2e56e10ec68bb9fa8008deb2455ee6be0553c695920b36b16b9", func := "loop.example/g01140/laws.FnExactSatellitesOf", spec := "fnExactSatellitesOf", apart := false }
def FnExactSatellitesOfSaid : Prop := fnExactSatellitesOfRow.holds Try.pinned (OpenSpec.ofChange fnExactSatellitesOfSpec)

/-- ITS FALSE NEIGHBOUR: 'it returns false'. Refute it at one input. -/
def fnExactSatellitesOfWrong : ChangeSpec := { name := "fnExactSatellitesOf", fn := fun _ => fun
  | [d] => { results := [.lit (.bool false)], args := [d] }
  | _ => none }
def FnExactSatellitesOfWrongFalsely : Prop := fnExactSatellitesOfRow.holds Try.pinned (OpenSpec.ofChange fnExactSatellitesOfWrong)

/-- 'laws.FnExactBranchOfGenerators': WHATEVER THE INPUT: true; the input reads as it did. -/
def fnExactBranchOfGeneratorsSpec : ChangeSpec := { name := "fnExactBranchOfGenerators", fn := fun _ => fun
  | [d] => { results := [.lit (.bool true)], args := [d] }
  | _ => none }
def fnExactBranchOfGeneratorsRow : OpenClaim := { program := "ytlbnnbncikeecaa", sum := "ccd6b0f64b99a2e56e10ec68bb9fa8008deb2455ee6be0553c695920b36b16b9", func := "loop.example/g01140/laws.FnExactBranchOfGenerators", spec := "fnExactBranchOfGenerators", apart := false }
def FnExactBranchOfGeneratorsSaid : Prop := fnExactBranchOfGeneratorsRow.holds Try.pinned (OpenSpec.ofChange fnExactBranchOfGeneratorsSpec)

/-- ITS FALSE NEIGHBOUR: 'it returns false'. Refute it at one input. -/
def fnExactBranchOfGeneratorsWrong : ChangeSpec := { name := "fnExactBranchOfGenerators", fn := fun _ => fun
  | [d] => { results := [.lit (.bool false)], args := [d] }
  | _ => none }
def FnExactBranchOfGeneratorsWrongFalsely : Prop := fnExactBranchOfGeneratorsRow.holds Try.pinned (OpenSpec.ofChange fnExactBranchOfGeneratorsWrong)

/-- 'laws.FnExactConductorOf': WHATEVER THE INPUT: true; the input reads as it did. -/
def fnExactConductorOfSpec : ChangeSpec := { name := "fnExactConductorOf", fn := fun _ => fun
  | [d] => { results := [.lit (.bool true)], args := [d] }
  | _ => none }
def fnExactConductorOfRow : OpenClaim := { program := "ytlbnnbncikeecaa", sum := "ccd6b0f64b99a2e56e10ec68bb9fa8008deb2455ee6be0553c695920b36b16b9", func := "loop.example/g01140/laws.FnExactConductorOf", spec := "fnExactConductorOf", apart := false }
def FnExactConductorOfSaid : Prop := fnExactConductorOfRow.holds Try.pinned (OpenSpec.ofChange fnExactConductorOfSpec)

/-- ITS FALSE NEIGHBOUR: 'it returns false'. Refute it at one input. -/
def fnExactConductorOfWrong : ChangeSpec := { name := "fnExactConductorOf", fn := fun _ => fun
  | [d] => { results := [.lit (.bool false)], args := [d] }
  | _ => none }
def FnExactConductorOfWrongFalsely : Prop := fnExactConductorOfRow.holds Try.pinned (OpenSpec.ofChange fnExactConductorOfWrong)

/-- 'laws.FnExactMultiplyClusters': WHATEVER THE INPUT: true; the input reads as it did. -/
def fnExactMultiplyClustersSpec : ChangeSpec := { name := "fnExactMultiplyClusters", fn := fun _ => fun
  | [d1, d2] => { results := [.lit (.bool true)], args := [d1, d2] }
  | _ => none }
def fnExactMultiplyClustersRow : OpenClaim := { program := "ytlbnnbncikeecaa", sum := "ccd6b0f64b99a2e56e10ec68bb9fa8008deb2455ee6be0553c695920b36b16b9", func := "loop.example/g01140/laws.FnExactMultiplyClusters", spec := "fnExactMultiplyClusters", apart := false }
def FnExactMultiplyClustersSaid : Prop := fnExactMultiplyClustersRow.holds Try.pinned (OpenSpec.ofChange fnExactMultiplyClustersSpec)

/-- ITS FALSE NEIGHBOUR: 'it returns false'. Refute it at one input. -/
def fnExactMultiplyClustersWrong : ChangeSpec := { name := "fnExactMultiplyClusters", fn := fun _ => fun
  | [d1, d2] => { results := [.lit (.bool false)], args := [d1, d2] }
  | _ => none }
def FnExactMultiplyClustersWrongFalsely : Prop := fnExactMultiplyClustersRow.holds Try.pinned (OpenSpec.ofChange fnExactMultiplyClustersWrong)

/-- 'laws.FnExactGeneratorsOf': WHATEVER THE INPUT: true; the input reads as it did. -/
def fnExactGeneratorsOfSpec : ChangeSpec := { name := "fnExactGeneratorsOf", fn := fun _ => fun
  | [d] => { results := [.lit (.bool true)], args := [d] }
  | _ => none }
def fnExactGeneratorsOfRow : OpenClaim := { program := "ytlbnnbncikeecaa", sum := "ccd6b0f64b99a2e56e10ec68bb9fa8008deb2455ee6be0553c695920b36b16b9", func := "loop.example/g01140/laws.FnExactGeneratorsOf", spec := "fnExactGeneratorsOf", apart := false }
def FnExactGeneratorsOfSaid : Prop := fnExactGeneratorsOfRow.holds Try.pinned (OpenSpec.ofChange fnExactGeneratorsOfSpec)

/-- ITS FALSE NEIGHBOUR: 'it returns false'. Refute it at one input. -/
def fnExactGeneratorsOfWrong : ChangeSpec := { name := "fnExactGeneratorsOf", fn := fun _ => fun
  | [d] => { results := [.lit (.bool false)], args := [d] }
  | _ => none }
def FnExactGeneratorsOfWrongFalsely : Prop := fnExactGeneratorsOfRow.holds Try.pinned (OpenSpec.ofChange fnExactGeneratorsOfWrong)

/-- 'laws.FnExactPathOf': WHATEVER THE INPUT: true; the input reads as it did. -/
def fnExactPathOfSpec : ChangeSpec := { name := "fnExactPathOf", fn := fun _ => fun
  | [d1, d2] => { results := [.lit (.bool true)], args := [d1, d2] }
  | _ => none }
def fnExactPathOfRow : OpenClaim := { program := "ytlbnnbncikeecaa", sum := "ccd6b0f64b99a2e56e10ec68bb9fa8008deb2455ee6be0553c695920b36b16b9", func := "loop.example/g01140/laws.FnExactPathOf", spec := "fnExactPathOf", apart := false }
def FnExactPathOfSaid : Prop := fnExactPathOfRow.holds Try.pinned (OpenSpec.ofChange fnExactPathOfSpec)

/-- ITS FALSE NEIGHBOUR: 'it returns false'. Refute it at one input. -/
def fnExactPathOfWrong : ChangeSpec := { name := "fnExactPathOf", fn := fun _ => fun
  | [d1, d2] => { results := [.lit (.bool false)], args := [d1, d2] }
  | _ => none }
def FnExactPathOfWrongFalsely : Prop := fnExactPathOfRow.holds Try.pinned (OpenSpec.ofChange fnExactPathOfWrong)

/-- 'laws.FnExactClusterOrders': WHATEVER THE INPUT: true; the input reads as it did. -/
def fnExactClusterOrdersSpec : ChangeSpec := { name := "fnExactClusterOrders", fn := fun _ => fun
  | [d] => { results := [.lit (.bool true)], args := [d] }
  | _ => none }
def fnExactClusterOrdersRow : OpenClaim := { program := "ytlbnnbncikeecaa", sum := "ccd6b0f64b99a2e56e10ec68bb9fa8008deb2455ee6be0553c695920b36b16b9", func := "loop.example/g01140/laws.FnExactClusterOrders", spec := "fnExactClusterOrders", unfollowed := true, recurses := true, apart := false }
def FnExactClusterOrdersSaid : Prop := fnExactClusterOrdersRow.holds Try.pinned (OpenSpec.ofChange fnExactClusterOrdersSpec)

/-- ITS FALSE NEIGHBOUR: 'it returns false'. Refute it at one input. -/
def fnExactClusterOrdersWrong : ChangeSpec := { name := "fnExactClusterOrders", fn := fun _ => fun
  | [d] => { results := [.lit (.bool false)], args := [d] }
  | _ => none }
def FnExactClusterOrdersWrongFalsely : Prop := fnExactClusterOrdersRow.holds Try.pinned (OpenSpec.ofChange fnExactClusterOrdersWrong)

/-- 'laws.FnExactIsConsistent': WHATEVER THE INPUT: true; the input reads as it did. -/
def fnExactIsConsistentSpec : ChangeSpec := { name := "fnExactIsConsistent", fn := fun _ => fun
  | [d] => { results := [.lit (.bool true)], args := [d] }
  | _ => none }
def fnExactIsConsistentRow : OpenClaim := { program := "ytlbnnbncikeecaa", sum := "ccd6b0f64b99a2e56e10ec68bb9fa8008deb2455ee6be0553c695920b36b16b9", func := "loop.example/g01140/laws.FnExactIsConsistent", spec := "fnExactIsConsistent", apart := false }
def FnExactIsConsistentSaid : Prop := fnExactIsConsistentRow.holds Try.pinned (OpenSpec.ofChange fnExactIsConsistentSpec)

/-- ITS FALSE NEIGHBOUR: 'it returns false'. Refute it at one input. -/
def fnExactIsConsistentWrong : ChangeSpec := { name := "fnExactIsConsistent", fn := fun _ => fun
  | [d] => { results := [.lit (.bool false)], args := [d] }
  | _ => none }
def FnExactIsConsistentWrongFalsely : Prop := fnExactIsConsistentRow.holds Try.pinned (OpenSpec.ofChange fnExactIsConsistentWrong)

/- THE SECOND FORM. 'bulk': how many values and letters a reading holds, each counted each time it is reached (what is shared counts as often as it is met; a slice's spare places count too). A statement '..UptoSaid' is the law's where the arguments, and the package variables that the reading takes, are together of bulk at most 1048576: NARROWER than '..Said'. Prove '..Said' where nothing that the law and all that it calls make is longer than what came in: it says more and counts as full. Else prove '..UptoSaid'. A law counts once. -/
mutual
def uptoBulk {H : Type} : DataW H → Nat
  | .lit (.string bytes) => bytes.length + 1
  | .lit _ => 1
  | .nil => 1
  | .ptr d => uptoBulk d + 1
  | .slice elems spare => uptoBulkAll elems + uptoBulkAll spare + 1
  | .agg parts => uptoBulkAll parts + 1
  | .iface _ d => uptoBulk d + 1
  | .map entries => uptoBulkEntries entries + 1
  | .held _ => 1
def uptoBulkAll {H : Type} : List (DataW H) → Nat
  | [] => 0
  | d :: r => uptoBulk d + uptoBulkAll r
def uptoBulkEntries {H : Type} : List (Lit × DataW H) → Nat
  | [] => 0
  | x :: r => uptoBulkEntry x + uptoBulkEntries r
def uptoBulkEntry {H : Type} : Lit × DataW H → Nat
  | (.string bytes, d) => bytes.length + uptoBulk d + 1
  | (_, d) => uptoBulk d + 1
 end
def uptoSmall : (H : Type) → List (DataW H) → Bool := fun _ ds => decide (uptoBulkAll ds ≤ 1048576)
def OpenSpec.upto (s : _root_.Go.ChangeSpec) : _root_.Go.OpenSpec := { _root_.Go.OpenSpec.ofChange s with cond := some uptoSmall }

/-- 'laws.FnExactIsCode', WHERE WHAT IT READS IS OF BULK AT MOST 1048576: true; the input reads as it did. -/
def fnExactIsCodeUptoRow : OpenClaim := { program := "ytlbnnbncikeecaa", sum := "ccd6b0f64b99a2e56e10ec68bb9fa8008deb2455ee6be0553c695920b36b16b9", func := "loop.example/g01140/laws.FnExactIsCode", spec := "fnExactIsCode", apart := false, narrowed := true }
def FnExactIsCodeUptoSaid : Prop := fnExactIsCodeUptoRow.holds Try.pinned (OpenSpec.upto fnExactIsCodeSpec)

/-- 'laws.FnExactIsCluster', WHERE WHAT IT READS IS OF BULK AT MOST 1048576: true; the input reads as it did. -/
def fnExactIsClusterUptoRow : OpenClaim := { program := "ytlbnnbncikeecaa", sum := "ccd6b0f64b99a2e56e10ec68bb9fa8008deb2455ee6be0553c695920b36b16b9", func := "loop.example/g01140/laws.FnExactIsCluster", spec := "fnExactIsCluster", apart := false, narrowed := true }
def FnExactIsClusterUptoSaid : Prop := fnExactIsClusterUptoRow.holds Try.pinned (OpenSpec.upto fnExactIsClusterSpec)

/-- 'laws.FnExactDeltaOfCluster', WHERE WHAT IT READS IS OF BULK AT MOST 1048576: true; the input reads as it did. -/
def fnExactDeltaOfClusterUptoRow : OpenClaim := { program := "ytlbnnbncikeecaa", sum := "ccd6b0f64b99a2e56e10ec68bb9fa8008deb2455ee6be0553c695920b36b16b9", func := "loop.example/g01140/laws.FnExactDeltaOfCluster", spec := "fnExactDeltaOfCluster", apart := false, narrowed := true }
def FnExactDeltaOfClusterUptoSaid : Prop := fnExactDeltaOfClusterUptoRow.holds Try.pinned (OpenSpec.upto fnExactDeltaOfClusterSpec)

/-- 'laws.FnExactThresholdOfBranch', WHERE WHAT IT READS IS OF BULK AT MOST 1048576: true; the input reads as it did. -/
def fnExactThresholdOfBranchUptoRow : OpenClaim := { program := "ytlbnnbncikeecaa", sum := "ccd6b0f64b99a2e56e10ec68bb9fa8008deb2455ee6be0553c695920b36b16b9", func := "loop.example/g01140/laws.FnExactThresholdOfBranch", spec := "fnExactThresholdOfBranch", apart := false, narrowed := true }
def FnExactThresholdOfBranchUptoSaid : Prop := fnExactThresholdOfBranchUptoRow.holds Try.pinned (OpenSpec.upto fnExactThresholdOfBranchSpec)

/-- 'laws.FnExactSatellitesOf', WHERE WHAT IT READS IS OF BULK AT MOST 1048576: true; the input reads as it did. -/
def fnExactSatellitesOfUptoRow : OpenClaim := { program := "ytlbnnbncikeecaa", sum := "ccd6b0f64b99a2e56e10ec68bb9fa8008deb2455ee6be0553c695920b36b16b9", func := "loop.example/g01140/laws.FnExactSatellitesOf", spec := "fnExactSatellitesOf", apart := false, narrowed := true }
def FnExactSatellitesOfUptoSaid : Prop := fnExactSatellitesOfUptoRow.holds Try.pinned (OpenSpec.upto fnExactSatellitesOfSpec)

/-- 'laws.FnExactBranchOfGenerators', WHERE WHAT IT READS IS OF BULK AT MOST 1048576: true; the input reads as it did. -/
def fnExactBranchOfGeneratorsUptoRow : OpenClaim := { program := "ytlbnnbncikeecaa", sum := "ccd6b0f64b99a2e56e10ec68bb9fa8008deb2455ee6be0553c695920b36b16b9", func := "loop.example/g01140/laws.FnExactBranchOfGenerators", spec := "fnExactBranchOfGenerators", apart := false, narrowed := true }
def FnExactBranchOfGeneratorsUptoSaid : Prop := fnExactBranchOfGeneratorsUptoRow.holds Try.pinned (OpenSpec.upto fnExactBranchOfGeneratorsSpec)

/-- 'laws.FnExactConductorOf', WHERE WHAT IT READS IS OF BULK AT MOST 1048576: true; the input reads as it did. -/
def fnExactConductorOfUptoRow : OpenClaim := { program := "ytlbnnbncikeecaa", sum := "ccd6b0f64b99a2e56e10ec68bb9fa8008deb2455ee6be0553c695920b36b16b9", func := "loop.example/g01140/laws.FnExactConductorOf", spec := "fnExactConductorOf", apart := false, narrowed := true }
def FnExactConductorOfUptoSaid : Prop := fnExactConductorOfUptoRow.holds Try.pinned (OpenSpec.upto fnExactConductorOfSpec)

/-- 'laws.FnExactMultiplyClusters', WHERE WHAT IT READS IS OF BULK AT MOST 1048576: true; the input reads as it did. -/
def fnExactMultiplyClustersUptoRow : OpenClaim := { program := "ytlbnnbncikeecaa", sum := "ccd6b0f64b99a2e56e10ec68bb9fa8008deb2455ee6be0553c695920b36b16b9", func := "loop.example/g01140/laws.FnExactMultiplyClusters", spec := "fnExactMultiplyClusters", apart := false, narrowed := true }
def FnExactMultiplyClustersUptoSaid : Prop := fnExactMultiplyClustersUptoRow.holds Try.pinned (OpenSpec.upto fnExactMultiplyClustersSpec)

/-- 'laws.FnExactGeneratorsOf', WHERE WHAT IT READS IS OF BULK AT MOST 1048576: true; the input reads as it did. -/
def fnExactGeneratorsOfUptoRow : OpenClaim := { program := "ytlbnnbncikeecaa", sum := "ccd6b0f64b99a2e56e10ec68bb9fa8008deb2455ee6be0553c695920b36b16b9", func := "loop.example/g01140/laws.FnExactGeneratorsOf", spec := "fnExactGeneratorsOf", apart := false, narrowed := true }
def FnExactGeneratorsOfUptoSaid : Prop := fnExactGeneratorsOfUptoRow.holds Try.pinned (OpenSpec.upto fnExactGeneratorsOfSpec)

/-- 'laws.FnExactPathOf', WHERE WHAT IT READS IS OF BULK AT MOST 1048576: true; the input reads as it did. -/
def fnExactPathOfUptoRow : OpenClaim := { program := "ytlbnnbncikeecaa", sum := "ccd6b0f64b99a2e56e10ec68bb9fa8008deb2455ee6be0553c695920b36b16b9", func := "loop.example/g01140/laws.FnExactPathOf", spec := "fnExactPathOf", apart := false, narrowed := true }
def FnExactPathOfUptoSaid : Prop := fnExactPathOfUptoRow.holds Try.pinned (OpenSpec.upto fnExactPathOfSpec)

/-- 'laws.FnExactClusterOrders', WHERE WHAT IT READS IS OF BULK AT MOST 1048576: true; the input reads as it did. -/
def fnExactClusterOrdersUptoRow : OpenClaim := { program := "ytlbnnbncikeecaa", sum := "ccd6b0f64b99a2e56e10ec68bb9fa8008deb2455ee6be0553c695920b36b16b9", func := "loop.example/g01140/laws.FnExactClusterOrders", spec := "fnExactClusterOrders", unfollowed := true, recurses := true, apart := false, narrowed := true }
def FnExactClusterOrdersUptoSaid : Prop := fnExactClusterOrdersUptoRow.holds Try.pinned (OpenSpec.upto fnExactClusterOrdersSpec)

/-- 'laws.FnExactIsConsistent', WHERE WHAT IT READS IS OF BULK AT MOST 1048576: true; the input reads as it did. -/
def fnExactIsConsistentUptoRow : OpenClaim := { program := "ytlbnnbncikeecaa", sum := "ccd6b0f64b99a2e56e10ec68bb9fa8008deb2455ee6be0553c695920b36b16b9", func := "loop.example/g01140/laws.FnExactIsConsistent", spec := "fnExactIsConsistent", apart := false, narrowed := true }
def FnExactIsConsistentUptoSaid : Prop := fnExactIsConsistentUptoRow.holds Try.pinned (OpenSpec.upto fnExactIsConsistentSpec)

end Rows
end Go.Proofs.Ytlbnnbncikeecaa
