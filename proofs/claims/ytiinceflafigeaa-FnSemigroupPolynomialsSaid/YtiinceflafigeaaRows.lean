/-
  No cell of these rows narrows 'for every input' (looked for: loops, veiled, ifaces, maps, wideKeys, modest, calm, conditions, laid).
  DERIVED. THE GIVEN ROWS OF THIS SEAT. 9 by the template 'for every input the law returns true; each argument reads behind the call as it read before'; 0 by the template 'total and deterministic' (their statements: YtiinceflafigeaaTotals.lean).
  GIVEN WITH THE SEED: the statements are not yours to turn. If you find one false, say at which input.
  Laid BY PROGRAM, IN A SANDBOX (cutbox-rows.mjs): the forced cells as the released guide's own fill.sh prints them over the translation e33ddee85d7c0863… (all of the seat's roots in one cut). By AI agents, Wed Nov 11 2026. No macro, syntax, notation, axiom, sorry.
-/
import Derived.Test.YtiinceflafigeaaChecked
import GoSem.Claim
import GoSem.ClaimJoined
import GoSem.ClaimMapViews
import Derived.JoinedTies
import Derived.KernelRfl
namespace Go.Proofs.Ytiinceflafigeaa
/- THE CELL 'sum', in the pinned program and in every row, IS THE sha256 OF THE DUMP (.gsa) THAT YtiinceflafigeaaProg.lean LOADS. Nothing in Lean hashes anything: it is a label: what it is worth is what the hold of that sum in a sandbox is worth. -/
noncomputable def Try.pinned : Pinned := { name := "ytiinceflafigeaa", sum := "e33ddee85d7c0863a46045876165f9d0c2ec01e5a504094b232af32dcd0537c3", checked := Try.checked }
namespace Rows
def none {H : Type} : Left H := { results := [], args := [] }

/-- 'laws.FnCurvettes': WHATEVER THE INPUT: true; the input reads as it did. -/
def fnCurvettesSpec : ChangeSpec := { name := "fnCurvettes", fn := fun _ => fun
  | [d] => { results := [.lit (.bool true)], args := [d] }
  | _ => none }
def fnCurvettesRow : OpenClaim := { program := "ytiinceflafigeaa", sum := "e33ddee85d7c0863a46045876165f9d0c2ec01e5a504094b232af32dcd0537c3", func := "loop.example/g01140/laws.FnCurvettes", spec := "fnCurvettes", unfollowed := true, recurses := true, apart := false }
def FnCurvettesSaid : Prop := fnCurvettesRow.holds Try.pinned (OpenSpec.ofChange fnCurvettesSpec)

/-- ITS FALSE NEIGHBOUR: 'it returns false'. Refute it at one input. -/
def fnCurvettesWrong : ChangeSpec := { name := "fnCurvettes", fn := fun _ => fun
  | [d] => { results := [.lit (.bool false)], args := [d] }
  | _ => none }
def FnCurvettesWrongFalsely : Prop := fnCurvettesRow.holds Try.pinned (OpenSpec.ofChange fnCurvettesWrong)

/-- 'laws.FnExactParseCluster': WHATEVER THE INPUT: true; the input reads as it did. -/
def fnExactParseClusterSpec : ChangeSpec := { name := "fnExactParseCluster", fn := fun _ => fun
  | [d] => { results := [.lit (.bool true)], args := [d] }
  | _ => none }
def fnExactParseClusterRow : OpenClaim := { program := "ytiinceflafigeaa", sum := "e33ddee85d7c0863a46045876165f9d0c2ec01e5a504094b232af32dcd0537c3", func := "loop.example/g01140/laws.FnExactParseCluster", spec := "fnExactParseCluster", recurses := true, apart := false }
def FnExactParseClusterSaid : Prop := fnExactParseClusterRow.holds Try.pinned (OpenSpec.ofChange fnExactParseClusterSpec)

/-- ITS FALSE NEIGHBOUR: 'it returns false'. Refute it at one input. -/
def fnExactParseClusterWrong : ChangeSpec := { name := "fnExactParseCluster", fn := fun _ => fun
  | [d] => { results := [.lit (.bool false)], args := [d] }
  | _ => none }
def FnExactParseClusterWrongFalsely : Prop := fnExactParseClusterRow.holds Try.pinned (OpenSpec.ofChange fnExactParseClusterWrong)

/-- 'laws.FnRepresentations': WHATEVER THE INPUT: true; the input reads as it did. -/
def fnRepresentationsSpec : ChangeSpec := { name := "fnRepresentations", fn := fun _ => fun
  | [d] => { results := [.lit (.bool true)], args := [d] }
  | _ => none }
def fnRepresentationsRow : OpenClaim := { program := "ytiinceflafigeaa", sum := "e33ddee85d7c0863a46045876165f9d0c2ec01e5a504094b232af32dcd0537c3", func := "loop.example/g01140/laws.FnRepresentations", spec := "fnRepresentations", unfollowed := true, recurses := true, apart := false }
def FnRepresentationsSaid : Prop := fnRepresentationsRow.holds Try.pinned (OpenSpec.ofChange fnRepresentationsSpec)

/-- ITS FALSE NEIGHBOUR: 'it returns false'. Refute it at one input. -/
def fnRepresentationsWrong : ChangeSpec := { name := "fnRepresentations", fn := fun _ => fun
  | [d] => { results := [.lit (.bool false)], args := [d] }
  | _ => none }
def FnRepresentationsWrongFalsely : Prop := fnRepresentationsRow.holds Try.pinned (OpenSpec.ofChange fnRepresentationsWrong)

/-- 'laws.FnThresholds': WHATEVER THE INPUT: true; the input reads as it did. -/
def fnThresholdsSpec : ChangeSpec := { name := "fnThresholds", fn := fun _ => fun
  | [d] => { results := [.lit (.bool true)], args := [d] }
  | _ => none }
def fnThresholdsRow : OpenClaim := { program := "ytiinceflafigeaa", sum := "e33ddee85d7c0863a46045876165f9d0c2ec01e5a504094b232af32dcd0537c3", func := "loop.example/g01140/laws.FnThresholds", spec := "fnThresholds", unfollowed := true, recurses := true, apart := false }
def FnThresholdsSaid : Prop := fnThresholdsRow.holds Try.pinned (OpenSpec.ofChange fnThresholdsSpec)

/-- ITS FALSE NEIGHBOUR: 'it returns false'. Refute it at one input. -/
def fnThresholdsWrong : ChangeSpec := { name := "fnThresholds", fn := fun _ => fun
  | [d] => { results := [.lit (.bool false)], args := [d] }
  | _ => none }
def FnThresholdsWrongFalsely : Prop := fnThresholdsRow.holds Try.pinned (OpenSpec.ofChange fnThresholdsWrong)

/-- 'laws.FnSemigroups': WHATEVER THE INPUT: true; the input reads as it did. -/
def fnSemigroupsSpec : ChangeSpec := { name := "fnSemigroups", fn := fun _ => fun
  | [d] => { results := [.lit (.bool true)], args := [d] }
  | _ => none }
def fnSemigroupsRow : OpenClaim := { program := "ytiinceflafigeaa", sum := "e33ddee85d7c0863a46045876165f9d0c2ec01e5a504094b232af32dcd0537c3", func := "loop.example/g01140/laws.FnSemigroups", spec := "fnSemigroups", unfollowed := true, recurses := true, apart := false }
def FnSemigroupsSaid : Prop := fnSemigroupsRow.holds Try.pinned (OpenSpec.ofChange fnSemigroupsSpec)

/-- ITS FALSE NEIGHBOUR: 'it returns false'. Refute it at one input. -/
def fnSemigroupsWrong : ChangeSpec := { name := "fnSemigroups", fn := fun _ => fun
  | [d] => { results := [.lit (.bool false)], args := [d] }
  | _ => none }
def FnSemigroupsWrongFalsely : Prop := fnSemigroupsRow.holds Try.pinned (OpenSpec.ofChange fnSemigroupsWrong)

/-- 'laws.FnUnloading': WHATEVER THE INPUT: true; the input reads as it did. -/
def fnUnloadingSpec : ChangeSpec := { name := "fnUnloading", fn := fun _ => fun
  | [d] => { results := [.lit (.bool true)], args := [d] }
  | _ => none }
def fnUnloadingRow : OpenClaim := { program := "ytiinceflafigeaa", sum := "e33ddee85d7c0863a46045876165f9d0c2ec01e5a504094b232af32dcd0537c3", func := "loop.example/g01140/laws.FnUnloading", spec := "fnUnloading", unfollowed := true, recurses := true, apart := false }
def FnUnloadingSaid : Prop := fnUnloadingRow.holds Try.pinned (OpenSpec.ofChange fnUnloadingSpec)

/-- ITS FALSE NEIGHBOUR: 'it returns false'. Refute it at one input. -/
def fnUnloadingWrong : ChangeSpec := { name := "fnUnloading", fn := fun _ => fun
  | [d] => { results := [.lit (.bool false)], args := [d] }
  | _ => none }
def FnUnloadingWrongFalsely : Prop := fnUnloadingRow.holds Try.pinned (OpenSpec.ofChange fnUnloadingWrong)

/-- 'laws.FnClusters': WHATEVER THE INPUT: true; the input reads as it did. -/
def fnClustersSpec : ChangeSpec := { name := "fnClusters", fn := fun _ => fun
  | [d] => { results := [.lit (.bool true)], args := [d] }
  | _ => none }
def fnClustersRow : OpenClaim := { program := "ytiinceflafigeaa", sum := "e33ddee85d7c0863a46045876165f9d0c2ec01e5a504094b232af32dcd0537c3", func := "loop.example/g01140/laws.FnClusters", spec := "fnClusters", unfollowed := true, recurses := true, apart := false }
def FnClustersSaid : Prop := fnClustersRow.holds Try.pinned (OpenSpec.ofChange fnClustersSpec)

/-- ITS FALSE NEIGHBOUR: 'it returns false'. Refute it at one input. -/
def fnClustersWrong : ChangeSpec := { name := "fnClusters", fn := fun _ => fun
  | [d] => { results := [.lit (.bool false)], args := [d] }
  | _ => none }
def FnClustersWrongFalsely : Prop := fnClustersRow.holds Try.pinned (OpenSpec.ofChange fnClustersWrong)

/-- 'laws.FnPoints': WHATEVER THE INPUT: true; the input reads as it did. -/
def fnPointsSpec : ChangeSpec := { name := "fnPoints", fn := fun _ => fun
  | [d] => { results := [.lit (.bool true)], args := [d] }
  | _ => none }
def fnPointsRow : OpenClaim := { program := "ytiinceflafigeaa", sum := "e33ddee85d7c0863a46045876165f9d0c2ec01e5a504094b232af32dcd0537c3", func := "loop.example/g01140/laws.FnPoints", spec := "fnPoints", unfollowed := true, recurses := true, apart := false }
def FnPointsSaid : Prop := fnPointsRow.holds Try.pinned (OpenSpec.ofChange fnPointsSpec)

/-- ITS FALSE NEIGHBOUR: 'it returns false'. Refute it at one input. -/
def fnPointsWrong : ChangeSpec := { name := "fnPoints", fn := fun _ => fun
  | [d] => { results := [.lit (.bool false)], args := [d] }
  | _ => none }
def FnPointsWrongFalsely : Prop := fnPointsRow.holds Try.pinned (OpenSpec.ofChange fnPointsWrong)

/-- 'laws.FnSemigroupPolynomials': WHATEVER THE INPUT: true; the input reads as it did. -/
def fnSemigroupPolynomialsSpec : ChangeSpec := { name := "fnSemigroupPolynomials", fn := fun _ => fun
  | [d] => { results := [.lit (.bool true)], args := [d] }
  | _ => none }
def fnSemigroupPolynomialsRow : OpenClaim := { program := "ytiinceflafigeaa", sum := "e33ddee85d7c0863a46045876165f9d0c2ec01e5a504094b232af32dcd0537c3", func := "loop.example/g01140/laws.FnSemigroupPolynomials", spec := "fnSemigroupPolynomials", unfollowed := true, recurses := true, apart := false }
def FnSemigroupPolynomialsSaid : Prop := fnSemigroupPolynomialsRow.holds Try.pinned (OpenSpec.ofChange fnSemigroupPolynomialsSpec)

/-- ITS FALSE NEIGHBOUR: 'it returns false'. Refute it at one input. -/
def fnSemigroupPolynomialsWrong : ChangeSpec := { name := "fnSemigroupPolynomials", fn := fun _ => fun
  | [d] => { results := [.lit (.bool false)], args := [d] }
  | _ => none }
def FnSemigroupPolynomialsWrongFalsely : Prop := fnSemigroupPolynomialsRow.holds Try.pinned (OpenSpec.ofChange fnSemigroupPolynomialsWrong)

/- THE SECOND FORM. 'bulk': how many values and letters a reading holds, each counted each time it is reached (what is shared counts as often as it is met; a slice's spare places count too). A statement '..UptoSaid' is the law's where the arguments, and the package variables that the reading takes, are together of bulk at most 1048576: NARROWER than '..Said'. Prove '..Said' where nothing that the law and all that it calls make is longer than what came in: it says more and counts as full. Else prove '..UptoSaid'. A law counts once. -/
mutual
def uptoBulk {H : Type} : DataW H → Nat
  | .lit (.string bytes) => bytes.length + 1
  | .lit _ => 1
  | .nil => 1
  | .ptr d => uptoBulk d + 1
  | .slice elems spare => uptoBulkAll elems + uptoBulkAll spare + 1
  | .agg parts => uptoBulkAll parts + 1
  | .iface _ d => uptoBulk d + 1
  | .map entries => uptoBulkEntries entries + 1
  | .held _ => 1
def uptoBulkAll {H : Type} : List (DataW H) → Nat
  | [] => 0
  | d :: r => uptoBulk d + uptoBulkAll r
def uptoBulkEntries {H : Type} : List (Lit × DataW H) → Nat
  | [] => 0
  | x :: r => uptoBulkEntry x + uptoBulkEntries r
def uptoBulkEntry {H : Type} : Lit × DataW H → Nat
  | (.string bytes, d) => bytes.length + uptoBulk d + 1
  | (_, d) => uptoBulk d + 1
 end
def uptoSmall : (H : Type) → List (DataW H) → Bool := fun _ ds => decide (uptoBulkAll ds ≤ 1048576)
def OpenSpec.upto (s : _root_.Go.ChangeSpec) : _root_.Go.OpenSpec := { _root_.Go.OpenSpec.ofChange s with cond := some uptoSmall }

/-- 'laws.FnCurvettes', WHERE WHAT IT READS IS OF BULK AT MOST 1048576: true; the input reads as it did. -/
def fnCurvettesUptoRow : OpenClaim := { program := "ytiinceflafigeaa", sum := "e33ddee85d7c0863a46045876165f9d0c2ec01e5a504094b232af32dcd0537c3", func := "loop.example/g01140/laws.FnCurvettes", spec := "fnCurvettes", unfollowed := true, recurses := true, apart := false, narrowed := true }
def FnCurvettesUptoSaid : Prop := fnCurvettesUptoRow.holds Try.pinned (OpenSpec.upto fnCurvettesSpec)

/-- 'laws.FnExactParseCluster', WHERE WHAT IT READS IS OF BULK AT MOST 1048576: true; the input reads as it did. -/
def fnExactParseClusterUptoRow : OpenClaim := { program := "ytiinceflafigeaa", sum := "e33ddee85d7c0863a46045876165f9d0c2ec01e5a504094b232af32dcd0537c3", func := "loop.example/g01140/laws.FnExactParseCluster", spec := "fnExactParseCluster", recurses := true, apart := false, narrowed := true }
def FnExactParseClusterUptoSaid : Prop := fnExactParseClusterUptoRow.holds Try.pinned (OpenSpec.upto fnExactParseClusterSpec)

/-- 'laws.FnRepresentations', WHERE WHAT IT READS IS OF BULK AT MOST 1048576: true; the input reads as it did. -/
def fnRepresentationsUptoRow : OpenClaim := { program := "ytiinceflafigeaa", sum := "e33ddee85d7c0863a46045876165f9d0c2ec01e5a504094b232af32dcd0537c3", func := "loop.example/g01140/laws.FnRepresentations", spec := "fnRepresentations", unfollowed := true, recurses := true, apart := false, narrowed := true }
def FnRepresentationsUptoSaid : Prop := fnRepresentationsUptoRow.holds Try.pinned (OpenSpec.upto fnRepresentationsSpec)

/-- 'laws.FnThresholds', WHERE WHAT IT READS IS OF BULK AT MOST 1048576: true; the input reads as it did. -/
def fnThresholdsUptoRow : OpenClaim := { program := "ytiinceflafigeaa", sum := "e33ddee85d7c0863a46045876165f9d0c2ec01e5a504094b232af32dcd0537c3", func := "loop.example/g01140/laws.FnThresholds", spec := "fnThresholds", unfollowed := true, recurses := true, apart := false, narrowed := true }
def FnThresholdsUptoSaid : Prop := fnThresholdsUptoRow.holds Try.pinned (OpenSpec.upto fnThresholdsSpec)

/-- 'laws.FnSemigroups', WHERE WHAT IT READS IS OF BULK AT MOST 1048576: true; the input reads as it did. -/
def fnSemigroupsUptoRow : OpenClaim := { program := "ytiinceflafigeaa", sum := "e33ddee85d7c0863a46045876165f9d0c2ec01e5a504094b232af32dcd0537c3", func := "loop.example/g01140/laws.FnSemigroups", spec := "fnSemigroups", unfollowed := true, recurses := true, apart := false, narrowed := true }
def FnSemigroupsUptoSaid : Prop := fnSemigroupsUptoRow.holds Try.pinned (OpenSpec.upto fnSemigroupsSpec)

/-- 'laws.FnUnloading', WHERE WHAT IT READS IS OF BULK AT MOST 1048576: true; the input reads as it did. -/
def fnUnloadingUptoRow : OpenClaim := { program := "ytiinceflafigeaa", sum := "e33ddee85d7c0863a46045876165f9d0c2ec01e5a504094b232af32dcd0537c3", func := "loop.example/g01140/laws.FnUnloading", spec := "fnUnloading", unfollowed := true, recurses := true, apart := false, narrowed := true }
def FnUnloadingUptoSaid : Prop := fnUnloadingUptoRow.holds Try.pinned (OpenSpec.upto fnUnloadingSpec)

/-- 'laws.FnClusters', WHERE WHAT IT READS IS OF BULK AT MOST 1048576: true; the input reads as it did. -/
def fnClustersUptoRow : OpenClaim := { program := "ytiinceflafigeaa", sum := "e33ddee85d7c0863a46045876165f9d0c2ec01e5a504094b232af32dcd0537c3", func := "loop.example/g01140/laws.FnClusters", spec := "fnClusters", unfollowed := true, recurses := true, apart := false, narrowed := true }
def FnClustersUptoSaid : Prop := fnClustersUptoRow.holds Try.pinned (OpenSpec.upto fnClustersSpec)

/-- 'laws.FnPoints', WHERE WHAT IT READS IS OF BULK AT MOST 1048576: true; the input reads as it did. -/
def fnPointsUptoRow : OpenClaim := { program := "ytiinceflafigeaa", sum := "e33ddee85d7c0863a46045876165f9d0c2ec01e5a504094b232af32dcd0537c3", func := "loop.example/g01140/laws.FnPoints", spec := "fnPoints", unfollowed := true, recurses := true, apart := false, narrowed := true }
def FnPointsUptoSaid : Prop := fnPointsUptoRow.holds Try.pinned (OpenSpec.upto fnPointsSpec)

/-- 'laws.FnSemigroupPolynomials', WHERE WHAT IT READS IS OF BULK AT MOST 1048576: true; the input reads as it did. -/
def fnSemigroupPolynomialsUptoRow : OpenClaim := { program := "ytiinceflafigeaa", sum := "e33ddee85d7c0863a46045876165f9d0c2ec01e5a504094b232af32dcd0537c3", func := "loop.example/g01140/laws.FnSemigroupPolynomials", spec := "fnSemigroupPolynomials", unfollowed := true, recurses := true, apart := false, narrowed := true }
def FnSemigroupPolynomialsUptoSaid : Prop := fnSemigroupPolynomialsUptoRow.holds Try.pinned (OpenSpec.upto fnSemigroupPolynomialsSpec)

end Rows
end Go.Proofs.Ytiinceflafigeaa
