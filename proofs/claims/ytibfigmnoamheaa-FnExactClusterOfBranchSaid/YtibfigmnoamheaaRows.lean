/-
  No cell of these rows narrows 'for every input' (looked for: loops, veiled, ifaces, maps, wideKeys, modest, calm, conditions, laid).
  DERIVED. THE GIVEN ROWS OF THIS SEAT. 14 by the template 'for every input the law returns true; each argument reads behind the call as it read before'; 0 by the template 'total and deterministic' (their statements: YtibfigmnoamheaaTotals.lean).
  GIVEN WITH THE SEED: the statements are not yours to turn. If you find one false, say at which input.
  Laid BY PROGRAM, IN A SANDBOX (cutbox-rows.mjs): the forced cells as the released guide's own fill.sh prints them over the translation 9656d71deb9b91ee… (all of the seat's roots in one cut). By AI agents, Wed Nov 11 2026. No macro, syntax, notation, axiom, sorry.
-/
import Derived.Test.YtibfigmnoamheaaChecked
import GoSem.Claim
import GoSem.ClaimJoined
import GoSem.ClaimMapViews
import Derived.JoinedTies
import Derived.KernelRfl
namespace Go.Proofs.Ytibfigmnoamheaa
/- THE CELL 'sum', in the pinned program and in every row, IS THE sha256 OF THE DUMP (.gsa) THAT YtibfigmnoamheaaProg.lean LOADS. Nothing in Lean hashes anything: it is a label: what it is worth is what the hold of that sum in a sandbox is worth. -/
noncomputable def Try.pinned : Pinned := { name := "ytibfigmnoamheaa", sum := "9656d71deb9b91eeafa7291ab466b7648e3d3274598d9e11048ca4cd007145b2", checked := Try.checked }
namespace Rows
def none {H : Type} : Left H := { results := [], args := [] }

/-- 'laws.FnCurvettes': WHATEVER THE INPUT: true; the input reads as it did. -/
def fnCurvettesSpec : ChangeSpec := { name := "fnCurvettes", fn := fun _ => fun
  | [d] => { results := [.lit (.bool true)], args := [d] }
  | _ => none }
def fnCurvettesRow : OpenClaim := { program := "ytibfigmnoamheaa", sum := "9656d71deb9b91eeafa7291ab466b7648e3d3274598d9e11048ca4cd007145b2", func := "loop.example/g01140/laws.FnCurvettes", spec := "fnCurvettes", unfollowed := true, recurses := true, apart := false }
def FnCurvettesSaid : Prop := fnCurvettesRow.holds Try.pinned (OpenSpec.ofChange fnCurvettesSpec)

/-- ITS FALSE NEIGHBOUR: 'it returns false'. Refute it at one input. -/
def fnCurvettesWrong : ChangeSpec := { name := "fnCurvettes", fn := fun _ => fun
  | [d] => { results := [.lit (.bool false)], args := [d] }
  | _ => none }
def FnCurvettesWrongFalsely : Prop := fnCurvettesRow.holds Try.pinned (OpenSpec.ofChange fnCurvettesWrong)

/-- 'laws.FnExactParseCluster': WHATEVER THE INPUT: true; the input reads as it did. -/
def fnExactParseClusterSpec : ChangeSpec := { name := "fnExactParseCluster", fn := fun _ => fun
  | [d] => { results := [.lit (.bool true)], args := [d] }
  | _ => none }
def fnExactParseClusterRow : OpenClaim := { program := "ytibfigmnoamheaa", sum := "9656d71deb9b91eeafa7291ab466b7648e3d3274598d9e11048ca4cd007145b2", func := "loop.example/g01140/laws.FnExactParseCluster", spec := "fnExactParseCluster", recurses := true, apart := false }
def FnExactParseClusterSaid : Prop := fnExactParseClusterRow.holds Try.pinned (OpenSpec.ofChange fnExactParseClusterSpec)

/-- ITS FALSE NEIGHBOUR: 'it returns false'. Refute it at one input. -/
def fnExactParseClusterWrong : ChangeSpec := { name := "fnExactParseCluster", fn := fun _ => fun
  | [d] => { results := [.lit (.bool false)], args := [d] }
  | _ => none }
def FnExactParseClusterWrongFalsely : Prop := fnExactParseClusterRow.holds Try.pinned (OpenSpec.ofChange fnExactParseClusterWrong)

/-- 'laws.FnExactClusterOfBranch': WHATEVER THE INPUT: true; the input reads as it did. -/
def fnExactClusterOfBranchSpec : ChangeSpec := { name := "fnExactClusterOfBranch", fn := fun _ => fun
  | [d1, d2] => { results := [.lit (.bool true)], args := [d1, d2] }
  | _ => none }
def fnExactClusterOfBranchRow : OpenClaim := { program := "ytibfigmnoamheaa", sum := "9656d71deb9b91eeafa7291ab466b7648e3d3274598d9e11048ca4cd007145b2", func := "loop.example/g01140/laws.FnExactClusterOfBranch", spec := "fnExactClusterOfBranch", apart := false }
def FnExactClusterOfBranchSaid : Prop := fnExactClusterOfBranchRow.holds Try.pinned (OpenSpec.ofChange fnExactClusterOfBranchSpec)

/-- ITS FALSE NEIGHBOUR: 'it returns false'. Refute it at one input. -/
def fnExactClusterOfBranchWrong : ChangeSpec := { name := "fnExactClusterOfBranch", fn := fun _ => fun
  | [d1, d2] => { results := [.lit (.bool false)], args := [d1, d2] }
  | _ => none }
def FnExactClusterOfBranchWrongFalsely : Prop := fnExactClusterOfBranchRow.holds Try.pinned (OpenSpec.ofChange fnExactClusterOfBranchWrong)

/-- 'laws.FnExactMeetCurvette': WHATEVER THE INPUT: true; the input reads as it did. -/
def fnExactMeetCurvetteSpec : ChangeSpec := { name := "fnExactMeetCurvette", fn := fun _ => fun
  | [d1, d2] => { results := [.lit (.bool true)], args := [d1, d2] }
  | _ => none }
def fnExactMeetCurvetteRow : OpenClaim := { program := "ytibfigmnoamheaa", sum := "9656d71deb9b91eeafa7291ab466b7648e3d3274598d9e11048ca4cd007145b2", func := "loop.example/g01140/laws.FnExactMeetCurvette", spec := "fnExactMeetCurvette", apart := false }
def FnExactMeetCurvetteSaid : Prop := fnExactMeetCurvetteRow.holds Try.pinned (OpenSpec.ofChange fnExactMeetCurvetteSpec)

/-- ITS FALSE NEIGHBOUR: 'it returns false'. Refute it at one input. -/
def fnExactMeetCurvetteWrong : ChangeSpec := { name := "fnExactMeetCurvette", fn := fun _ => fun
  | [d1, d2] => { results := [.lit (.bool false)], args := [d1, d2] }
  | _ => none }
def FnExactMeetCurvetteWrongFalsely : Prop := fnExactMeetCurvetteRow.holds Try.pinned (OpenSpec.ofChange fnExactMeetCurvetteWrong)

/-- 'laws.FnExactCurvetteOfCode': WHATEVER THE INPUT: true; the input reads as it did. -/
def fnExactCurvetteOfCodeSpec : ChangeSpec := { name := "fnExactCurvetteOfCode", fn := fun _ => fun
  | [d] => { results := [.lit (.bool true)], args := [d] }
  | _ => none }
def fnExactCurvetteOfCodeRow : OpenClaim := { program := "ytibfigmnoamheaa", sum := "9656d71deb9b91eeafa7291ab466b7648e3d3274598d9e11048ca4cd007145b2", func := "loop.example/g01140/laws.FnExactCurvetteOfCode", spec := "fnExactCurvetteOfCode", apart := false }
def FnExactCurvetteOfCodeSaid : Prop := fnExactCurvetteOfCodeRow.holds Try.pinned (OpenSpec.ofChange fnExactCurvetteOfCodeSpec)

/-- ITS FALSE NEIGHBOUR: 'it returns false'. Refute it at one input. -/
def fnExactCurvetteOfCodeWrong : ChangeSpec := { name := "fnExactCurvetteOfCode", fn := fun _ => fun
  | [d] => { results := [.lit (.bool false)], args := [d] }
  | _ => none }
def FnExactCurvetteOfCodeWrongFalsely : Prop := fnExactCurvetteOfCodeRow.holds Try.pinned (OpenSpec.ofChange fnExactCurvetteOfCodeWrong)

/-- 'laws.FnRepresentations': WHATEVER THE INPUT: true; the input reads as it did. -/
def fnRepresentationsSpec : ChangeSpec := { name := "fnRepresentations", fn := fun _ => fun
  | [d] => { results := [.lit (.bool true)], args := [d] }
  | _ => none }
def fnRepresentationsRow : OpenClaim := { program := "ytibfigmnoamheaa", sum := "9656d71deb9b91eeafa7291ab466b7648e3d3274598d9e11048ca4cd007145b2", func := "loop.example/g01140/laws.FnRepresentations", spec := "fnRepresentations", unfollowed := true, recurses := true, apart := false }
def FnRepresentationsSaid : Prop := fnRepresentationsRow.holds Try.pinned (OpenSpec.ofChange fnRepresentationsSpec)

/-- ITS FALSE NEIGHBOUR: 'it returns false'. Refute it at one input. -/
def fnRepresentationsWrong : ChangeSpec := { name := "fnRepresentations", fn := fun _ => fun
  | [d] => { results := [.lit (.bool false)], args := [d] }
  | _ => none }
def FnRepresentationsWrongFalsely : Prop := fnRepresentationsRow.holds Try.pinned (OpenSpec.ofChange fnRepresentationsWrong)

/-- 'laws.FnThresholds': WHATEVER THE INPUT: true; the input reads as it did. -/
def fnThresholdsSpec : ChangeSpec := { name := "fnThresholds", fn := fun _ => fun
  | [d] => { results := [.lit (.bool true)], args := [d] }
  | _ => none }
def fnThresholdsRow : OpenClaim := { program := "ytibfigmnoamheaa", sum := "9656d71deb9b91eeafa7291ab466b7648e3d3274598d9e11048ca4cd007145b2", func := "loop.example/g01140/laws.FnThresholds", spec := "fnThresholds", unfollowed := true, recurses := true, apart := false }
def FnThresholdsSaid : Prop := fnThresholdsRow.holds Try.pinned (OpenSpec.ofChange fnThresholdsSpec)

/-- ITS FALSE NEIGHBOUR: 'it returns false'. Refute it at one input. -/
def fnThresholdsWrong : ChangeSpec := { name := "fnThresholds", fn := fun _ => fun
  | [d] => { results := [.lit (.bool false)], args := [d] }
  | _ => none }
def FnThresholdsWrongFalsely : Prop := fnThresholdsRow.holds Try.pinned (OpenSpec.ofChange fnThresholdsWrong)

/-- 'laws.FnExactCurvetteAt': WHATEVER THE INPUT: true; the input reads as it did. -/
def fnExactCurvetteAtSpec : ChangeSpec := { name := "fnExactCurvetteAt", fn := fun _ => fun
  | [d1, d2] => { results := [.lit (.bool true)], args := [d1, d2] }
  | _ => none }
def fnExactCurvetteAtRow : OpenClaim := { program := "ytibfigmnoamheaa", sum := "9656d71deb9b91eeafa7291ab466b7648e3d3274598d9e11048ca4cd007145b2", func := "loop.example/g01140/laws.FnExactCurvetteAt", spec := "fnExactCurvetteAt", apart := false }
def FnExactCurvetteAtSaid : Prop := fnExactCurvetteAtRow.holds Try.pinned (OpenSpec.ofChange fnExactCurvetteAtSpec)

/-- ITS FALSE NEIGHBOUR: 'it returns false'. Refute it at one input. -/
def fnExactCurvetteAtWrong : ChangeSpec := { name := "fnExactCurvetteAt", fn := fun _ => fun
  | [d1, d2] => { results := [.lit (.bool false)], args := [d1, d2] }
  | _ => none }
def FnExactCurvetteAtWrongFalsely : Prop := fnExactCurvetteAtRow.holds Try.pinned (OpenSpec.ofChange fnExactCurvetteAtWrong)

/-- 'laws.FnSemigroups': WHATEVER THE INPUT: true; the input reads as it did. -/
def fnSemigroupsSpec : ChangeSpec := { name := "fnSemigroups", fn := fun _ => fun
  | [d] => { results := [.lit (.bool true)], args := [d] }
  | _ => none }
def fnSemigroupsRow : OpenClaim := { program := "ytibfigmnoamheaa", sum := "9656d71deb9b91eeafa7291ab466b7648e3d3274598d9e11048ca4cd007145b2", func := "loop.example/g01140/laws.FnSemigroups", spec := "fnSemigroups", unfollowed := true, recurses := true, apart := false }
def FnSemigroupsSaid : Prop := fnSemigroupsRow.holds Try.pinned (OpenSpec.ofChange fnSemigroupsSpec)

/-- ITS FALSE NEIGHBOUR: 'it returns false'. Refute it at one input. -/
def fnSemigroupsWrong : ChangeSpec := { name := "fnSemigroups", fn := fun _ => fun
  | [d] => { results := [.lit (.bool false)], args := [d] }
  | _ => none }
def FnSemigroupsWrongFalsely : Prop := fnSemigroupsRow.holds Try.pinned (OpenSpec.ofChange fnSemigroupsWrong)

/-- 'laws.FnUnloading': WHATEVER THE INPUT: true; the input reads as it did. -/
def fnUnloadingSpec : ChangeSpec := { name := "fnUnloading", fn := fun _ => fun
  | [d] => { results := [.lit (.bool true)], args := [d] }
  | _ => none }
def fnUnloadingRow : OpenClaim := { program := "ytibfigmnoamheaa", sum := "9656d71deb9b91eeafa7291ab466b7648e3d3274598d9e11048ca4cd007145b2", func := "loop.example/g01140/laws.FnUnloading", spec := "fnUnloading", unfollowed := true, recurses := true, apart := false }
def FnUnloadingSaid : Prop := fnUnloadingRow.holds Try.pinned (OpenSpec.ofChange fnUnloadingSpec)

/-- ITS FALSE NEIGHBOUR: 'it returns false'. Refute it at one input. -/
def fnUnloadingWrong : ChangeSpec := { name := "fnUnloading", fn := fun _ => fun
  | [d] => { results := [.lit (.bool false)], args := [d] }
  | _ => none }
def FnUnloadingWrongFalsely : Prop := fnUnloadingRow.holds Try.pinned (OpenSpec.ofChange fnUnloadingWrong)

/-- 'laws.FnClusters': WHATEVER THE INPUT: true; the input reads as it did. -/
def fnClustersSpec : ChangeSpec := { name := "fnClusters", fn := fun _ => fun
  | [d] => { results := [.lit (.bool true)], args := [d] }
  | _ => none }
def fnClustersRow : OpenClaim := { program := "ytibfigmnoamheaa", sum := "9656d71deb9b91eeafa7291ab466b7648e3d3274598d9e11048ca4cd007145b2", func := "loop.example/g01140/laws.FnClusters", spec := "fnClusters", unfollowed := true, recurses := true, apart := false }
def FnClustersSaid : Prop := fnClustersRow.holds Try.pinned (OpenSpec.ofChange fnClustersSpec)

/-- ITS FALSE NEIGHBOUR: 'it returns false'. Refute it at one input. -/
def fnClustersWrong : ChangeSpec := { name := "fnClusters", fn := fun _ => fun
  | [d] => { results := [.lit (.bool false)], args := [d] }
  | _ => none }
def FnClustersWrongFalsely : Prop := fnClustersRow.holds Try.pinned (OpenSpec.ofChange fnClustersWrong)

/-- 'laws.FnPoints': WHATEVER THE INPUT: true; the input reads as it did. -/
def fnPointsSpec : ChangeSpec := { name := "fnPoints", fn := fun _ => fun
  | [d] => { results := [.lit (.bool true)], args := [d] }
  | _ => none }
def fnPointsRow : OpenClaim := { program := "ytibfigmnoamheaa", sum := "9656d71deb9b91eeafa7291ab466b7648e3d3274598d9e11048ca4cd007145b2", func := "loop.example/g01140/laws.FnPoints", spec := "fnPoints", unfollowed := true, recurses := true, apart := false }
def FnPointsSaid : Prop := fnPointsRow.holds Try.pinned (OpenSpec.ofChange fnPointsSpec)

/-- ITS FALSE NEIGHBOUR: 'it returns false'. Refute it at one input. -/
def fnPointsWrong : ChangeSpec := { name := "fnPoints", fn := fun _ => fun
  | [d] => { results := [.lit (.bool false)], args := [d] }
  | _ => none }
def FnPointsWrongFalsely : Prop := fnPointsRow.holds Try.pinned (OpenSpec.ofChange fnPointsWrong)

/-- 'laws.FnExactBranchAtPoint': WHATEVER THE INPUT: true; the input reads as it did. -/
def fnExactBranchAtPointSpec : ChangeSpec := { name := "fnExactBranchAtPoint", fn := fun _ => fun
  | [d1, d2] => { results := [.lit (.bool true)], args := [d1, d2] }
  | _ => none }
def fnExactBranchAtPointRow : OpenClaim := { program := "ytibfigmnoamheaa", sum := "9656d71deb9b91eeafa7291ab466b7648e3d3274598d9e11048ca4cd007145b2", func := "loop.example/g01140/laws.FnExactBranchAtPoint", spec := "fnExactBranchAtPoint", apart := false }
def FnExactBranchAtPointSaid : Prop := fnExactBranchAtPointRow.holds Try.pinned (OpenSpec.ofChange fnExactBranchAtPointSpec)

/-- ITS FALSE NEIGHBOUR: 'it returns false'. Refute it at one input. -/
def fnExactBranchAtPointWrong : ChangeSpec := { name := "fnExactBranchAtPoint", fn := fun _ => fun
  | [d1, d2] => { results := [.lit (.bool false)], args := [d1, d2] }
  | _ => none }
def FnExactBranchAtPointWrongFalsely : Prop := fnExactBranchAtPointRow.holds Try.pinned (OpenSpec.ofChange fnExactBranchAtPointWrong)

/-- 'laws.FnSemigroupPolynomials': WHATEVER THE INPUT: true; the input reads as it did. -/
def fnSemigroupPolynomialsSpec : ChangeSpec := { name := "fnSemigroupPolynomials", fn := fun _ => fun
  | [d] => { results := [.lit (.bool true)], args := [d] }
  | _ => none }
def fnSemigroupPolynomialsRow : OpenClaim := { program := "ytibfigmnoamheaa", sum := "9656d71deb9b91eeafa7291ab466b7648e3d3274598d9e11048ca4cd007145b2", func := "loop.example/g01140/laws.FnSemigroupPolynomials", spec := "fnSemigroupPolynomials", unfollowed := true, recurses := true, apart := false }
def FnSemigroupPolynomialsSaid : Prop := fnSemigroupPolynomialsRow.holds Try.pinned (OpenSpec.ofChange fnSemigroupPolynomialsSpec)

/-- ITS FALSE NEIGHBOUR: 'it returns false'. Refute it at one input. -/
def fnSemigroupPolynomialsWrong : ChangeSpec := { name := "fnSemigroupPolynomials", fn := fun _ => fun
  | [d] => { results := [.lit (.bool false)], args := [d] }
  | _ => none }
def FnSemigroupPolynomialsWrongFalsely : Prop := fnSemigroupPolynomialsRow.holds Try.pinned (OpenSpec.ofChange fnSemigroupPolynomialsWrong)

/- THE SECOND FORM. 'bulk': how many values and letters a reading holds, each counted each time it is reached (what is shared counts as often as it is met; a slice's spare places count too). A statement '..UptoSaid' is the law's where the arguments, and the package variables that the reading takes, are together of bulk at most 1048576: NARROWER than '..Said'. Prove '..Said' where nothing that the law and all that it calls make is longer than what came in: it says more and counts as full. Else prove '..UptoSaid'. A law counts once. -/
mutual
def uptoBulk {H : Type} : DataW H → Nat
  | .lit (.string bytes) => bytes.length + 1
  | .lit _ => 1
  | .nil => 1
  | .ptr d => uptoBulk d + 1
  | .slice elems spare => uptoBulkAll elems + uptoBulkAll spare + 1
  | .agg parts => uptoBulkAll parts + 1
  | .iface _ d => uptoBulk d + 1
  | .map entries => uptoBulkEntries entries + 1
  | .held _ => 1
def uptoBulkAll {H : Type} : List (DataW H) → Nat
  | [] => 0
  | d :: r => uptoBulk d + uptoBulkAll r
def uptoBulkEntries {H : Type} : List (Lit × DataW H) → Nat
  | [] => 0
  | x :: r => uptoBulkEntry x + uptoBulkEntries r
def uptoBulkEntry {H : Type} : Lit × DataW H → Nat
  | (.string bytes, d) => bytes.length + uptoBulk d + 1
  | (_, d) => uptoBulk d + 1
 end
def uptoSmall : (H : Type) → List (DataW H) → Bool := fun _ ds => decide (uptoBulkAll ds ≤ 1048576)
def OpenSpec.upto (s : _root_.Go.ChangeSpec) : _root_.Go.OpenSpec := { _root_.Go.OpenSpec.ofChange s with cond := some uptoSmall }

/-- 'laws.FnCurvettes', WHERE WHAT IT READS IS OF BULK AT MOST 1048576: true; the input reads as it did. -/
def fnCurvettesUptoRow : OpenClaim := { program := "ytibfigmnoamheaa", sum := "9656d71deb9b91eeafa7291ab466b7648e3d3274598d9e11048ca4cd007145b2", func := "loop.example/g01140/laws.FnCurvettes", spec := "fnCurvettes", unfollowed := true, recurses := true, apart := false, narrowed := true }
def FnCurvettesUptoSaid : Prop := fnCurvettesUptoRow.holds Try.pinned (OpenSpec.upto fnCurvettesSpec)

/-- 'laws.FnExactParseCluster', WHERE WHAT IT READS IS OF BULK AT MOST 1048576: true; the input reads as it did. -/
def fnExactParseClusterUptoRow : OpenClaim := { program := "ytibfigmnoamheaa", sum := "9656d71deb9b91eeafa7291ab466b7648e3d3274598d9e11048ca4cd007145b2", func := "loop.example/g01140/laws.FnExactParseCluster", spec := "fnExactParseCluster", recurses := true, apart := false, narrowed := true }
def FnExactParseClusterUptoSaid : Prop := fnExactParseClusterUptoRow.holds Try.pinned (OpenSpec.upto fnExactParseClusterSpec)

/-- 'laws.FnExactClusterOfBranch', WHERE WHAT IT READS IS OF BULK AT MOST 1048576: true; the input reads as it did. -/
def fnExactClusterOfBranchUptoRow : OpenClaim := { program := "ytibfigmnoamheaa", sum := "9656d71deb9b91eeafa7291ab466b7648e3d3274598d9e11048ca4cd007145b2", func := "loop.example/g01140/laws.FnExactClusterOfBranch", spec := "fnExactClusterOfBranch", apart := false, narrowed := true }
def FnExactClusterOfBranchUptoSaid : Prop := fnExactClusterOfBranchUptoRow.holds Try.pinned (OpenSpec.upto fnExactClusterOfBranchSpec)

/-- 'laws.FnExactMeetCurvette', WHERE WHAT IT READS IS OF BULK AT MOST 1048576: true; the input reads as it did. -/
def fnExactMeetCurvetteUptoRow : OpenClaim := { program := "ytibfigmnoamheaa", sum := "9656d71deb9b91eeafa7291ab466b7648e3d3274598d9e11048ca4cd007145b2", func := "loop.example/g01140/laws.FnExactMeetCurvette", spec := "fnExactMeetCurvette", apart := false, narrowed := true }
def FnExactMeetCurvetteUptoSaid : Prop := fnExactMeetCurvetteUptoRow.holds Try.pinned (OpenSpec.upto fnExactMeetCurvetteSpec)

/-- 'laws.FnExactCurvetteOfCode', WHERE WHAT IT READS IS OF BULK AT MOST 1048576: true; the input reads as it did. -/
def fnExactCurvetteOfCodeUptoRow : OpenClaim := { program := "ytibfigmnoamheaa", sum := "9656d71deb9b91eeafa7291ab466b7648e3d3274598d9e11048ca4cd007145b2", func := "loop.example/g01140/laws.FnExactCurvetteOfCode", spec := "fnExactCurvetteOfCode", apart := false, narrowed := true }
def FnExactCurvetteOfCodeUptoSaid : Prop := fnExactCurvetteOfCodeUptoRow.holds Try.pinned (OpenSpec.upto fnExactCurvetteOfCodeSpec)

/-- 'laws.FnRepresentations', WHERE WHAT IT READS IS OF BULK AT MOST 1048576: true; the input reads as it did. -/
def fnRepresentationsUptoRow : OpenClaim := { program := "ytibfigmnoamheaa", sum := "9656d71deb9b91eeafa7291ab466b7648e3d3274598d9e11048ca4cd007145b2", func := "loop.example/g01140/laws.FnRepresentations", spec := "fnRepresentations", unfollowed := true, recurses := true, apart := false, narrowed := true }
def FnRepresentationsUptoSaid : Prop := fnRepresentationsUptoRow.holds Try.pinned (OpenSpec.upto fnRepresentationsSpec)

/-- 'laws.FnThresholds', WHERE WHAT IT READS IS OF BULK AT MOST 1048576: true; the input reads as it did. -/
def fnThresholdsUptoRow : OpenClaim := { program := "ytibfigmnoamheaa", sum := "9656d71deb9b91eeafa7291ab466b7648e3d3274598d9e11048ca4cd007145b2", func := "loop.example/g01140/laws.FnThresholds", spec := "fnThresholds", unfollowed := true, recurses := true, apart := false, narrowed := true }
def FnThresholdsUptoSaid : Prop := fnThresholdsUptoRow.holds Try.pinned (OpenSpec.upto fnThresholdsSpec)

/-- 'laws.FnExactCurvetteAt', WHERE WHAT IT READS IS OF BULK AT MOST 1048576: true; the input reads as it did. -/
def fnExactCurvetteAtUptoRow : OpenClaim := { program := "ytibfigmnoamheaa", sum := "9656d71deb9b91eeafa7291ab466b7648e3d3274598d9e11048ca4cd007145b2", func := "loop.example/g01140/laws.FnExactCurvetteAt", spec := "fnExactCurvetteAt", apart := false, narrowed := true }
def FnExactCurvetteAtUptoSaid : Prop := fnExactCurvetteAtUptoRow.holds Try.pinned (OpenSpec.upto fnExactCurvetteAtSpec)

/-- 'laws.FnSemigroups', WHERE WHAT IT READS IS OF BULK AT MOST 1048576: true; the input reads as it did. -/
def fnSemigroupsUptoRow : OpenClaim := { program := "ytibfigmnoamheaa", sum := "9656d71deb9b91eeafa7291ab466b7648e3d3274598d9e11048ca4cd007145b2", func := "loop.example/g01140/laws.FnSemigroups", spec := "fnSemigroups", unfollowed := true, recurses := true, apart := false, narrowed := true }
def FnSemigroupsUptoSaid : Prop := fnSemigroupsUptoRow.holds Try.pinned (OpenSpec.upto fnSemigroupsSpec)

/-- 'laws.FnUnloading', WHERE WHAT IT READS IS OF BULK AT MOST 1048576: true; the input reads as it did. -/
def fnUnloadingUptoRow : OpenClaim := { program := "ytibfigmnoamheaa", sum := "9656d71deb9b91eeafa7291ab466b7648e3d3274598d9e11048ca4cd007145b2", func := "loop.example/g01140/laws.FnUnloading", spec := "fnUnloading", unfollowed := true, recurses := true, apart := false, narrowed := true }
def FnUnloadingUptoSaid : Prop := fnUnloadingUptoRow.holds Try.pinned (OpenSpec.upto fnUnloadingSpec)

/-- 'laws.FnClusters', WHERE WHAT IT READS IS OF BULK AT MOST 1048576: true; the input reads as it did. -/
def fnClustersUptoRow : OpenClaim := { program := "ytibfigmnoamheaa", sum := "9656d71deb9b91eeafa7291ab466b7648e3d3274598d9e11048ca4cd007145b2", func := "loop.example/g01140/laws.FnClusters", spec := "fnClusters", unfollowed := true, recurses := true, apart := false, narrowed := true }
def FnClustersUptoSaid : Prop := fnClustersUptoRow.holds Try.pinned (OpenSpec.upto fnClustersSpec)

/-- 'laws.FnPoints', WHERE WHAT IT READS IS OF BULK AT MOST 1048576: true; the input reads as it did. -/
def fnPointsUptoRow : OpenClaim := { program := "ytibfigmnoamheaa", sum := "9656d71deb9b91eeafa7291ab466b7648e3d3274598d9e11048ca4cd007145b2", func := "loop.example/g01140/laws.FnPoints", spec := "fnPoints", unfollowed := true, recurses := true, apart := false, narrowed := true }
def FnPointsUptoSaid : Prop := fnPointsUptoRow.holds Try.pinned (OpenSpec.upto fnPointsSpec)

/-- 'laws.FnExactBranchAtPoint', WHERE WHAT IT READS IS OF BULK AT MOST 1048576: true; the input reads as it did. -/
def fnExactBranchAtPointUptoRow : OpenClaim := { program := "ytibfigmnoamheaa", sum := "9656d71deb9b91eeafa7291ab466b7648e3d3274598d9e11048ca4cd007145b2", func := "loop.example/g01140/laws.FnExactBranchAtPoint", spec := "fnExactBranchAtPoint", apart := false, narrowed := true }
def FnExactBranchAtPointUptoSaid : Prop := fnExactBranchAtPointUptoRow.holds Try.pinned (OpenSpec.upto fnExactBranchAtPointSpec)

/-- 'laws.FnSemigroupPolynomials', WHERE WHAT IT READS IS OF BULK AT MOST 1048576: true; the input reads as it did. -/
def fnSemigroupPolynomialsUptoRow : OpenClaim := { program := "ytibfigmnoamheaa", sum := "9656d71deb9b91eeafa7291ab466b7648e3d3274598d9e11048ca4cd007145b2", func := "loop.example/g01140/laws.FnSemigroupPolynomials", spec := "fnSemigroupPolynomials", unfollowed := true, recurses := true, apart := false, narrowed := true }
def FnSemigroupPolynomialsUptoSaid : Prop := fnSemigroupPolynomialsUptoRow.holds Try.pinned (OpenSpec.upto fnSemigroupPolynomialsSpec)

end Rows
end Go.Proofs.Ytibfigmnoamheaa
