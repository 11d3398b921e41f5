/-
  No cell of these rows narrows 'for every input' (looked for: loops, veiled, ifaces, maps, wideKeys, modest, calm, conditions, laid).
  DERIVED. THE GIVEN ROWS OF THIS SEAT. 18 by the template 'for every input the law returns true; each argument reads behind the call as it read before'; 0 by the template 'total and deterministic' (their statements: YthpnmkghjnipoaaTotals.lean).
  GIVEN WITH THE SEED: the statements are not yours to turn. If you find one false, say at which input.
  Laid BY PROGRAM, IN A SANDBOX (cutbox-rows.mjs): the forced cells as the released guide's own fill.sh prints them over the translation 00ecef80a63660b5… (all of the seat's roots in one cut). By AI agents, Wed Nov 11 2026. No macro, syntax, notation, axiom, sorry.
-/
import Derived.Test.YthpnmkghjnipoaaChecked
import GoSem.Claim
import GoSem.ClaimJoined
import GoSem.ClaimMapViews
import Derived.JoinedTies
import Derived.KernelRfl
namespace Go.Proofs.Ythpnmkghjnipoaa
/- THE CELL 'sum', in the pinned program and in every row, IS THE sha256 OF THE DUMP (.gsa) THAT YthpnmkghjnipoaaProg.lean LOADS. Nothing in Lean hashes anything: it is a label: what it is worth is what the hold of that sum in a sandbox is worth. -/
noncomputable def Try.pinned : Pinned := { name := "ythpnmkghjnipoaa", sum := "00ecef80a63660b520a56b3cec799dffef2918b0d0b4c6730c9f3a27224ed753", checked := Try.checked }
namespace Rows
def none {H : Type} : Left H := { results := [], args := [] }

/-- 'laws.FnExactIsValue': WHATEVER THE INPUT: true; the input reads as it did. -/
def fnExactIsValueSpec : ChangeSpec := { name := "fnExactIsValue", fn := fun _ => fun
  | [d1, d2] => { results := [.lit (.bool true)], args := [d1, d2] }
  | _ => none }
def fnExactIsValueRow : OpenClaim := { program := "ythpnmkghjnipoaa", sum := "00ecef80a63660b520a56b3cec799dffef2918b0d0b4c6730c9f3a27224ed753", func := "loop.example/g01140/laws.FnExactIsValue", spec := "fnExactIsValue", unfollowed := true, recurses := true, apart := false }
def FnExactIsValueSaid : Prop := fnExactIsValueRow.holds Try.pinned (OpenSpec.ofChange fnExactIsValueSpec)

/-- ITS FALSE NEIGHBOUR: 'it returns false'. Refute it at one input. -/
def fnExactIsValueWrong : ChangeSpec := { name := "fnExactIsValue", fn := fun _ => fun
  | [d1, d2] => { results := [.lit (.bool false)], args := [d1, d2] }
  | _ => none }
def FnExactIsValueWrongFalsely : Prop := fnExactIsValueRow.holds Try.pinned (OpenSpec.ofChange fnExactIsValueWrong)

/-- 'laws.FnExactAperyOf': WHATEVER THE INPUT: true; the input reads as it did. -/
def fnExactAperyOfSpec : ChangeSpec := { name := "fnExactAperyOf", fn := fun _ => fun
  | [d] => { results := [.lit (.bool true)], args := [d] }
  | _ => none }
def fnExactAperyOfRow : OpenClaim := { program := "ythpnmkghjnipoaa", sum := "00ecef80a63660b520a56b3cec799dffef2918b0d0b4c6730c9f3a27224ed753", func := "loop.example/g01140/laws.FnExactAperyOf", spec := "fnExactAperyOf", unfollowed := true, recurses := true, apart := false }
def FnExactAperyOfSaid : Prop := fnExactAperyOfRow.holds Try.pinned (OpenSpec.ofChange fnExactAperyOfSpec)

/-- ITS FALSE NEIGHBOUR: 'it returns false'. Refute it at one input. -/
def fnExactAperyOfWrong : ChangeSpec := { name := "fnExactAperyOf", fn := fun _ => fun
  | [d] => { results := [.lit (.bool false)], args := [d] }
  | _ => none }
def FnExactAperyOfWrongFalsely : Prop := fnExactAperyOfRow.holds Try.pinned (OpenSpec.ofChange fnExactAperyOfWrong)

/-- 'laws.FnExactRepresentationOf': WHATEVER THE INPUT: true; the input reads as it did. -/
def fnExactRepresentationOfSpec : ChangeSpec := { name := "fnExactRepresentationOf", fn := fun _ => fun
  | [d1, d2] => { results := [.lit (.bool true)], args := [d1, d2] }
  | _ => none }
def fnExactRepresentationOfRow : OpenClaim := { program := "ythpnmkghjnipoaa", sum := "00ecef80a63660b520a56b3cec799dffef2918b0d0b4c6730c9f3a27224ed753", func := "loop.example/g01140/laws.FnExactRepresentationOf", spec := "fnExactRepresentationOf", unfollowed := true, recurses := true, apart := false }
def FnExactRepresentationOfSaid : Prop := fnExactRepresentationOfRow.holds Try.pinned (OpenSpec.ofChange fnExactRepresentationOfSpec)

/-- ITS FALSE NEIGHBOUR: 'it returns false'. Refute it at one input. -/
def fnExactRepresentationOfWrong : ChangeSpec := { name := "fnExactRepresentationOf", fn := fun _ => fun
  | [d1, d2] => { results := [.lit (.bool false)], args := [d1, d2] }
  | _ => none }
def FnExactRepresentationOfWrongFalsely : Prop := fnExactRepresentationOfRow.holds Try.pinned (OpenSpec.ofChange fnExactRepresentationOfWrong)

/-- 'laws.FnExactValuesUpTo': WHATEVER THE INPUT: true; the input reads as it did. -/
def fnExactValuesUpToSpec : ChangeSpec := { name := "fnExactValuesUpTo", fn := fun _ => fun
  | [d1, d2] => { results := [.lit (.bool true)], args := [d1, d2] }
  | _ => none }
def fnExactValuesUpToRow : OpenClaim := { program := "ythpnmkghjnipoaa", sum := "00ecef80a63660b520a56b3cec799dffef2918b0d0b4c6730c9f3a27224ed753", func := "loop.example/g01140/laws.FnExactValuesUpTo", spec := "fnExactValuesUpTo", unfollowed := true, recurses := true, apart := false }
def FnExactValuesUpToSaid : Prop := fnExactValuesUpToRow.holds Try.pinned (OpenSpec.ofChange fnExactValuesUpToSpec)

/-- ITS FALSE NEIGHBOUR: 'it returns false'. Refute it at one input. -/
def fnExactValuesUpToWrong : ChangeSpec := { name := "fnExactValuesUpTo", fn := fun _ => fun
  | [d1, d2] => { results := [.lit (.bool false)], args := [d1, d2] }
  | _ => none }
def FnExactValuesUpToWrongFalsely : Prop := fnExactValuesUpToRow.holds Try.pinned (OpenSpec.ofChange fnExactValuesUpToWrong)

/-- 'laws.FnExactMultiplicitiesAt': WHATEVER THE INPUT: true; the input reads as it did. -/
def fnExactMultiplicitiesAtSpec : ChangeSpec := { name := "fnExactMultiplicitiesAt", fn := fun _ => fun
  | [d1, d2] => { results := [.lit (.bool true)], args := [d1, d2] }
  | _ => none }
def fnExactMultiplicitiesAtRow : OpenClaim := { program := "ythpnmkghjnipoaa", sum := "00ecef80a63660b520a56b3cec799dffef2918b0d0b4c6730c9f3a27224ed753", func := "loop.example/g01140/laws.FnExactMultiplicitiesAt", spec := "fnExactMultiplicitiesAt", apart := false }
def FnExactMultiplicitiesAtSaid : Prop := fnExactMultiplicitiesAtRow.holds Try.pinned (OpenSpec.ofChange fnExactMultiplicitiesAtSpec)

/-- ITS FALSE NEIGHBOUR: 'it returns false'. Refute it at one input. -/
def fnExactMultiplicitiesAtWrong : ChangeSpec := { name := "fnExactMultiplicitiesAt", fn := fun _ => fun
  | [d1, d2] => { results := [.lit (.bool false)], args := [d1, d2] }
  | _ => none }
def FnExactMultiplicitiesAtWrongFalsely : Prop := fnExactMultiplicitiesAtRow.holds Try.pinned (OpenSpec.ofChange fnExactMultiplicitiesAtWrong)

/-- 'laws.FnExactGapsOf': WHATEVER THE INPUT: true; the input reads as it did. -/
def fnExactGapsOfSpec : ChangeSpec := { name := "fnExactGapsOf", fn := fun _ => fun
  | [d] => { results := [.lit (.bool true)], args := [d] }
  | _ => none }
def fnExactGapsOfRow : OpenClaim := { program := "ythpnmkghjnipoaa", sum := "00ecef80a63660b520a56b3cec799dffef2918b0d0b4c6730c9f3a27224ed753", func := "loop.example/g01140/laws.FnExactGapsOf", spec := "fnExactGapsOf", unfollowed := true, recurses := true, apart := false }
def FnExactGapsOfSaid : Prop := fnExactGapsOfRow.holds Try.pinned (OpenSpec.ofChange fnExactGapsOfSpec)

/-- ITS FALSE NEIGHBOUR: 'it returns false'. Refute it at one input. -/
def fnExactGapsOfWrong : ChangeSpec := { name := "fnExactGapsOf", fn := fun _ => fun
  | [d] => { results := [.lit (.bool false)], args := [d] }
  | _ => none }
def FnExactGapsOfWrongFalsely : Prop := fnExactGapsOfRow.holds Try.pinned (OpenSpec.ofChange fnExactGapsOfWrong)

/-- 'laws.FnExactSemigroupPolynomial': WHATEVER THE INPUT: true; the input reads as it did. -/
def fnExactSemigroupPolynomialSpec : ChangeSpec := { name := "fnExactSemigroupPolynomial", fn := fun _ => fun
  | [d] => { results := [.lit (.bool true)], args := [d] }
  | _ => none }
def fnExactSemigroupPolynomialRow : OpenClaim := { program := "ythpnmkghjnipoaa", sum := "00ecef80a63660b520a56b3cec799dffef2918b0d0b4c6730c9f3a27224ed753", func := "loop.example/g01140/laws.FnExactSemigroupPolynomial", spec := "fnExactSemigroupPolynomial", unfollowed := true, recurses := true, apart := false }
def FnExactSemigroupPolynomialSaid : Prop := fnExactSemigroupPolynomialRow.holds Try.pinned (OpenSpec.ofChange fnExactSemigroupPolynomialSpec)

/-- ITS FALSE NEIGHBOUR: 'it returns false'. Refute it at one input. -/
def fnExactSemigroupPolynomialWrong : ChangeSpec := { name := "fnExactSemigroupPolynomial", fn := fun _ => fun
  | [d] => { results := [.lit (.bool false)], args := [d] }
  | _ => none }
def FnExactSemigroupPolynomialWrongFalsely : Prop := fnExactSemigroupPolynomialRow.holds Try.pinned (OpenSpec.ofChange fnExactSemigroupPolynomialWrong)

/-- 'laws.FnExactCountSatellites': WHATEVER THE INPUT: true; the input reads as it did. -/
def fnExactCountSatellitesSpec : ChangeSpec := { name := "fnExactCountSatellites", fn := fun _ => fun
  | [d1, d2] => { results := [.lit (.bool true)], args := [d1, d2] }
  | _ => none }
def fnExactCountSatellitesRow : OpenClaim := { program := "ythpnmkghjnipoaa", sum := "00ecef80a63660b520a56b3cec799dffef2918b0d0b4c6730c9f3a27224ed753", func := "loop.example/g01140/laws.FnExactCountSatellites", spec := "fnExactCountSatellites", apart := false }
def FnExactCountSatellitesSaid : Prop := fnExactCountSatellitesRow.holds Try.pinned (OpenSpec.ofChange fnExactCountSatellitesSpec)

/-- ITS FALSE NEIGHBOUR: 'it returns false'. Refute it at one input. -/
def fnExactCountSatellitesWrong : ChangeSpec := { name := "fnExactCountSatellites", fn := fun _ => fun
  | [d1, d2] => { results := [.lit (.bool false)], args := [d1, d2] }
  | _ => none }
def FnExactCountSatellitesWrongFalsely : Prop := fnExactCountSatellitesRow.holds Try.pinned (OpenSpec.ofChange fnExactCountSatellitesWrong)

/-- 'laws.FnExactCodeOf': WHATEVER THE INPUT: true; the input reads as it did. -/
def fnExactCodeOfSpec : ChangeSpec := { name := "fnExactCodeOf", fn := fun _ => fun
  | [d1, d2] => { results := [.lit (.bool true)], args := [d1, d2] }
  | _ => none }
def fnExactCodeOfRow : OpenClaim := { program := "ythpnmkghjnipoaa", sum := "00ecef80a63660b520a56b3cec799dffef2918b0d0b4c6730c9f3a27224ed753", func := "loop.example/g01140/laws.FnExactCodeOf", spec := "fnExactCodeOf", apart := false }
def FnExactCodeOfSaid : Prop := fnExactCodeOfRow.holds Try.pinned (OpenSpec.ofChange fnExactCodeOfSpec)

/-- ITS FALSE NEIGHBOUR: 'it returns false'. Refute it at one input. -/
def fnExactCodeOfWrong : ChangeSpec := { name := "fnExactCodeOf", fn := fun _ => fun
  | [d1, d2] => { results := [.lit (.bool false)], args := [d1, d2] }
  | _ => none }
def FnExactCodeOfWrongFalsely : Prop := fnExactCodeOfRow.holds Try.pinned (OpenSpec.ofChange fnExactCodeOfWrong)

/-- 'laws.FnExactOrdersOf': WHATEVER THE INPUT: true; the input reads as it did. -/
def fnExactOrdersOfSpec : ChangeSpec := { name := "fnExactOrdersOf", fn := fun _ => fun
  | [d1, d2] => { results := [.lit (.bool true)], args := [d1, d2] }
  | _ => none }
def fnExactOrdersOfRow : OpenClaim := { program := "ythpnmkghjnipoaa", sum := "00ecef80a63660b520a56b3cec799dffef2918b0d0b4c6730c9f3a27224ed753", func := "loop.example/g01140/laws.FnExactOrdersOf", spec := "fnExactOrdersOf", unfollowed := true, recurses := true, apart := false }
def FnExactOrdersOfSaid : Prop := fnExactOrdersOfRow.holds Try.pinned (OpenSpec.ofChange fnExactOrdersOfSpec)

/-- ITS FALSE NEIGHBOUR: 'it returns false'. Refute it at one input. -/
def fnExactOrdersOfWrong : ChangeSpec := { name := "fnExactOrdersOf", fn := fun _ => fun
  | [d1, d2] => { results := [.lit (.bool false)], args := [d1, d2] }
  | _ => none }
def FnExactOrdersOfWrongFalsely : Prop := fnExactOrdersOfRow.holds Try.pinned (OpenSpec.ofChange fnExactOrdersOfWrong)

/-- 'laws.FnExactProximatesOf': WHATEVER THE INPUT: true; the input reads as it did. -/
def fnExactProximatesOfSpec : ChangeSpec := { name := "fnExactProximatesOf", fn := fun _ => fun
  | [d1, d2] => { results := [.lit (.bool true)], args := [d1, d2] }
  | _ => none }
def fnExactProximatesOfRow : OpenClaim := { program := "ythpnmkghjnipoaa", sum := "00ecef80a63660b520a56b3cec799dffef2918b0d0b4c6730c9f3a27224ed753", func := "loop.example/g01140/laws.FnExactProximatesOf", spec := "fnExactProximatesOf", apart := false }
def FnExactProximatesOfSaid : Prop := fnExactProximatesOfRow.holds Try.pinned (OpenSpec.ofChange fnExactProximatesOfSpec)

/-- ITS FALSE NEIGHBOUR: 'it returns false'. Refute it at one input. -/
def fnExactProximatesOfWrong : ChangeSpec := { name := "fnExactProximatesOf", fn := fun _ => fun
  | [d1, d2] => { results := [.lit (.bool false)], args := [d1, d2] }
  | _ => none }
def FnExactProximatesOfWrongFalsely : Prop := fnExactProximatesOfRow.holds Try.pinned (OpenSpec.ofChange fnExactProximatesOfWrong)

/-- 'laws.FnExactClusterOfBranch': WHATEVER THE INPUT: true; the input reads as it did. -/
def fnExactClusterOfBranchSpec : ChangeSpec := { name := "fnExactClusterOfBranch", fn := fun _ => fun
  | [d1, d2] => { results := [.lit (.bool true)], args := [d1, d2] }
  | _ => none }
def fnExactClusterOfBranchRow : OpenClaim := { program := "ythpnmkghjnipoaa", sum := "00ecef80a63660b520a56b3cec799dffef2918b0d0b4c6730c9f3a27224ed753", func := "loop.example/g01140/laws.FnExactClusterOfBranch", spec := "fnExactClusterOfBranch", apart := false }
def FnExactClusterOfBranchSaid : Prop := fnExactClusterOfBranchRow.holds Try.pinned (OpenSpec.ofChange fnExactClusterOfBranchSpec)

/-- ITS FALSE NEIGHBOUR: 'it returns false'. Refute it at one input. -/
def fnExactClusterOfBranchWrong : ChangeSpec := { name := "fnExactClusterOfBranch", fn := fun _ => fun
  | [d1, d2] => { results := [.lit (.bool false)], args := [d1, d2] }
  | _ => none }
def FnExactClusterOfBranchWrongFalsely : Prop := fnExactClusterOfBranchRow.holds Try.pinned (OpenSpec.ofChange fnExactClusterOfBranchWrong)

/-- 'laws.FnExactMeetCurvette': WHATEVER THE INPUT: true; the input reads as it did. -/
def fnExactMeetCurvetteSpec : ChangeSpec := { name := "fnExactMeetCurvette", fn := fun _ => fun
  | [d1, d2] => { results := [.lit (.bool true)], args := [d1, d2] }
  | _ => none }
def fnExactMeetCurvetteRow : OpenClaim := { program := "ythpnmkghjnipoaa", sum := "00ecef80a63660b520a56b3cec799dffef2918b0d0b4c6730c9f3a27224ed753", func := "loop.example/g01140/laws.FnExactMeetCurvette", spec := "fnExactMeetCurvette", apart := false }
def FnExactMeetCurvetteSaid : Prop := fnExactMeetCurvetteRow.holds Try.pinned (OpenSpec.ofChange fnExactMeetCurvetteSpec)

/-- ITS FALSE NEIGHBOUR: 'it returns false'. Refute it at one input. -/
def fnExactMeetCurvetteWrong : ChangeSpec := { name := "fnExactMeetCurvette", fn := fun _ => fun
  | [d1, d2] => { results := [.lit (.bool false)], args := [d1, d2] }
  | _ => none }
def FnExactMeetCurvetteWrongFalsely : Prop := fnExactMeetCurvetteRow.holds Try.pinned (OpenSpec.ofChange fnExactMeetCurvetteWrong)

/-- 'laws.FnExactDiscrepanciesOf': WHATEVER THE INPUT: true; the input reads as it did. -/
def fnExactDiscrepanciesOfSpec : ChangeSpec := { name := "fnExactDiscrepanciesOf", fn := fun _ => fun
  | [d1, d2] => { results := [.lit (.bool true)], args := [d1, d2] }
  | _ => none }
def fnExactDiscrepanciesOfRow : OpenClaim := { program := "ythpnmkghjnipoaa", sum := "00ecef80a63660b520a56b3cec799dffef2918b0d0b4c6730c9f3a27224ed753", func := "loop.example/g01140/laws.FnExactDiscrepanciesOf", spec := "fnExactDiscrepanciesOf", apart := false }
def FnExactDiscrepanciesOfSaid : Prop := fnExactDiscrepanciesOfRow.holds Try.pinned (OpenSpec.ofChange fnExactDiscrepanciesOfSpec)

/-- ITS FALSE NEIGHBOUR: 'it returns false'. Refute it at one input. -/
def fnExactDiscrepanciesOfWrong : ChangeSpec := { name := "fnExactDiscrepanciesOf", fn := fun _ => fun
  | [d1, d2] => { results := [.lit (.bool false)], args := [d1, d2] }
  | _ => none }
def FnExactDiscrepanciesOfWrongFalsely : Prop := fnExactDiscrepanciesOfRow.holds Try.pinned (OpenSpec.ofChange fnExactDiscrepanciesOfWrong)

/-- 'laws.FnExactCurvetteOfCode': WHATEVER THE INPUT: true; the input reads as it did. -/
def fnExactCurvetteOfCodeSpec : ChangeSpec := { name := "fnExactCurvetteOfCode", fn := fun _ => fun
  | [d] => { results := [.lit (.bool true)], args := [d] }
  | _ => none }
def fnExactCurvetteOfCodeRow : OpenClaim := { program := "ythpnmkghjnipoaa", sum := "00ecef80a63660b520a56b3cec799dffef2918b0d0b4c6730c9f3a27224ed753", func := "loop.example/g01140/laws.FnExactCurvetteOfCode", spec := "fnExactCurvetteOfCode", apart := false }
def FnExactCurvetteOfCodeSaid : Prop := fnExactCurvetteOfCodeRow.holds Try.pinned (OpenSpec.ofChange fnExactCurvetteOfCodeSpec)

/-- ITS FALSE NEIGHBOUR: 'it returns false'. Refute it at one input. -/
def fnExactCurvetteOfCodeWrong : ChangeSpec := { name := "fnExactCurvetteOfCode", fn := fun _ => fun
  | [d] => { results := [.lit (.bool false)], args := [d] }
  | _ => none }
def FnExactCurvetteOfCodeWrongFalsely : Prop := fnExactCurvetteOfCodeRow.holds Try.pinned (OpenSpec.ofChange fnExactCurvetteOfCodeWrong)

/-- 'laws.FnExactMultiplierCluster': WHATEVER THE INPUT: true; the input reads as it did. -/
def fnExactMultiplierClusterSpec : ChangeSpec := { name := "fnExactMultiplierCluster", fn := fun _ => fun
  | [d1, d2] => { results := [.lit (.bool true)], args := [d1, d2] }
  | _ => none }
def fnExactMultiplierClusterRow : OpenClaim := { program := "ythpnmkghjnipoaa", sum := "00ecef80a63660b520a56b3cec799dffef2918b0d0b4c6730c9f3a27224ed753", func := "loop.example/g01140/laws.FnExactMultiplierCluster", spec := "fnExactMultiplierCluster", unfollowed := true, recurses := true, apart := false }
def FnExactMultiplierClusterSaid : Prop := fnExactMultiplierClusterRow.holds Try.pinned (OpenSpec.ofChange fnExactMultiplierClusterSpec)

/-- ITS FALSE NEIGHBOUR: 'it returns false'. Refute it at one input. -/
def fnExactMultiplierClusterWrong : ChangeSpec := { name := "fnExactMultiplierCluster", fn := fun _ => fun
  | [d1, d2] => { results := [.lit (.bool false)], args := [d1, d2] }
  | _ => none }
def FnExactMultiplierClusterWrongFalsely : Prop := fnExactMultiplierClusterRow.holds Try.pinned (OpenSpec.ofChange fnExactMultiplierClusterWrong)

/-- 'laws.FnExactCurvetteAt': WHATEVER THE INPUT: true; the input reads as it did. -/
def fnExactCurvetteAtSpec : ChangeSpec := { name := "fnExactCurvetteAt", fn := fun _ => fun
  | [d1, d2] => { results := [.lit (.bool true)], args := [d1, d2] }
  | _ => none }
def fnExactCurvetteAtRow : OpenClaim := { program := "ythpnmkghjnipoaa", sum := "00ecef80a63660b520a56b3cec799dffef2918b0d0b4c6730c9f3a27224ed753", func := "loop.example/g01140/laws.FnExactCurvetteAt", spec := "fnExactCurvetteAt", apart := false }
def FnExactCurvetteAtSaid : Prop := fnExactCurvetteAtRow.holds Try.pinned (OpenSpec.ofChange fnExactCurvetteAtSpec)

/-- ITS FALSE NEIGHBOUR: 'it returns false'. Refute it at one input. -/
def fnExactCurvetteAtWrong : ChangeSpec := { name := "fnExactCurvetteAt", fn := fun _ => fun
  | [d1, d2] => { results := [.lit (.bool false)], args := [d1, d2] }
  | _ => none }
def FnExactCurvetteAtWrongFalsely : Prop := fnExactCurvetteAtRow.holds Try.pinned (OpenSpec.ofChange fnExactCurvetteAtWrong)

/-- 'laws.FnExactBranchAtPoint': WHATEVER THE INPUT: true; the input reads as it did. -/
def fnExactBranchAtPointSpec : ChangeSpec := { name := "fnExactBranchAtPoint", fn := fun _ => fun
  | [d1, d2] => { results := [.lit (.bool true)], args := [d1, d2] }
  | _ => none }
def fnExactBranchAtPointRow : OpenClaim := { program := "ythpnmkghjnipoaa", sum := "00ecef80a63660b520a56b3cec799dffef2918b0d0b4c6730c9f3a27224ed753", func := "loop.example/g01140/laws.FnExactBranchAtPoint", spec := "fnExactBranchAtPoint", apart := false }
def FnExactBranchAtPointSaid : Prop := fnExactBranchAtPointRow.holds Try.pinned (OpenSpec.ofChange fnExactBranchAtPointSpec)

/-- ITS FALSE NEIGHBOUR: 'it returns false'. Refute it at one input. -/
def fnExactBranchAtPointWrong : ChangeSpec := { name := "fnExactBranchAtPoint", fn := fun _ => fun
  | [d1, d2] => { results := [.lit (.bool false)], args := [d1, d2] }
  | _ => none }
def FnExactBranchAtPointWrongFalsely : Prop := fnExactBranchAtPointRow.holds Try.pinned (OpenSpec.ofChange fnExactBranchAtPointWrong)

/- THE SECOND FORM. 'bulk': how many values and letters a reading holds, each counted each time it is reached (what is shared counts as often as it is met; a slice's spare places count too). A statement '..UptoSaid' is the law's where the arguments, and the package variables that the reading takes, are together of bulk at most 1048576: NARROWER than '..Said'. Prove '..Said' where nothing that the law and all that it calls make is longer than what came in: it says more and counts as full. Else prove '..UptoSaid'. A law counts once. -/
mutual
def uptoBulk {H : Type} : DataW H → Nat
  | .lit (.string bytes) => bytes.length + 1
  | .lit _ => 1
  | .nil => 1
  | .ptr d => uptoBulk d + 1
  | .slice elems spare => uptoBulkAll elems + uptoBulkAll spare + 1
  | .agg parts => uptoBulkAll parts + 1
  | .iface _ d => uptoBulk d + 1
  | .map entries => uptoBulkEntries entries + 1
  | .held _ => 1
def uptoBulkAll {H : Type} : List (DataW H) → Nat
  | [] => 0
  | d :: r => uptoBulk d + uptoBulkAll r
def uptoBulkEntries {H : Type} : List (Lit × DataW H) → Nat
  | [] => 0
  | x :: r => uptoBulkEntry x + uptoBulkEntries r
def uptoBulkEntry {H : Type} : Lit × DataW H → Nat
  | (.string bytes, d) => bytes.length + uptoBulk d + 1
  | (_, d) => uptoBulk d + 1
 end
def uptoSmall : (H : Type) → List (DataW H) → Bool := fun _ ds => decide (uptoBulkAll ds ≤ 1048576)
def OpenSpec.upto (s : _root_.Go.ChangeSpec) : _root_.Go.OpenSpec := { _root_.Go.OpenSpec.ofChange s with cond := some uptoSmall }

/-- 'laws.FnExactIsValue', WHERE WHAT IT READS IS OF BULK AT MOST 1048576: true; the input reads as it did. -/
def fnExactIsValueUptoRow : OpenClaim := { program := "ythpnmkghjnipoaa", sum := "00ecef80a63660b520a56b3cec799dffef2918b0d0b4c6730c9f3a27224ed753", func := "loop.example/g01140/laws.FnExactIsValue", spec := "fnExactIsValue", unfollowed := true, recurses := true, apart := false, narrowed := true }
def FnExactIsValueUptoSaid : Prop := fnExactIsValueUptoRow.holds Try.pinned (OpenSpec.upto fnExactIsValueSpec)

/-- 'laws.FnExactAperyOf', WHERE WHAT IT READS IS OF BULK AT MOST 1048576: true; the input reads as it did. -/
def fnExactAperyOfUptoRow : OpenClaim := { program := "ythpnmkghjnipoaa", sum := "00ecef80a63660b520a56b3cec799dffef2918b0d0b4c6730c9f3a27224ed753", func := "loop.example/g01140/laws.FnExactAperyOf", spec := "fnExactAperyOf", unfollowed := true, recurses := true, apart := false, narrowed := true }
def FnExactAperyOfUptoSaid : Prop := fnExactAperyOfUptoRow.holds Try.pinned (OpenSpec.upto fnExactAperyOfSpec)

/-- 'laws.FnExactRepresentationOf', WHERE WHAT IT READS IS OF BULK AT MOST 1048576: true; the input reads as it did. -/
def fnExactRepresentationOfUptoRow : OpenClaim := { program := "ythpnmkghjnipoaa", sum := "00ecef80a63660b520a56b3cec799dffef2918b0d0b4c6730c9f3a27224ed753", func := "loop.example/g01140/laws.FnExactRepresentationOf", spec := "fnExactRepresentationOf", unfollowed := true, recurses := true, apart := false, narrowed := true }
def FnExactRepresentationOfUptoSaid : Prop := fnExactRepresentationOfUptoRow.holds Try.pinned (OpenSpec.upto fnExactRepresentationOfSpec)

/-- 'laws.FnExactValuesUpTo', WHERE WHAT IT READS IS OF BULK AT MOST 1048576: true; the input reads as it did. -/
def fnExactValuesUpToUptoRow : OpenClaim := { program := "ythpnmkghjnipoaa", sum := "00ecef80a63660b520a56b3cec799dffef2918b0d0b4c6730c9f3a27224ed753", func := "loop.example/g01140/laws.FnExactValuesUpTo", spec := "fnExactValuesUpTo", unfollowed := true, recurses := true, apart := false, narrowed := true }
def FnExactValuesUpToUptoSaid : Prop := fnExactValuesUpToUptoRow.holds Try.pinned (OpenSpec.upto fnExactValuesUpToSpec)

/-- 'laws.FnExactMultiplicitiesAt', WHERE WHAT IT READS IS OF BULK AT MOST 1048576: true; the input reads as it did. -/
def fnExactMultiplicitiesAtUptoRow : OpenClaim := { program := "ythpnmkghjnipoaa", sum := "00ecef80a63660b520a56b3cec799dffef2918b0d0b4c6730c9f3a27224ed753", func := "loop.example/g01140/laws.FnExactMultiplicitiesAt", spec := "fnExactMultiplicitiesAt", apart := false, narrowed := true }
def FnExactMultiplicitiesAtUptoSaid : Prop := fnExactMultiplicitiesAtUptoRow.holds Try.pinned (OpenSpec.upto fnExactMultiplicitiesAtSpec)

/-- 'laws.FnExactGapsOf', WHERE WHAT IT READS IS OF BULK AT MOST 1048576: true; the input reads as it did. -/
def fnExactGapsOfUptoRow : OpenClaim := { program := "ythpnmkghjnipoaa", sum := "00ecef80a63660b520a56b3cec799dffef2918b0d0b4c6730c9f3a27224ed753", func := "loop.example/g01140/laws.FnExactGapsOf", spec := "fnExactGapsOf", unfollowed := true, recurses := true, apart := false, narrowed := true }
def FnExactGapsOfUptoSaid : Prop := fnExactGapsOfUptoRow.holds Try.pinned (OpenSpec.upto fnExactGapsOfSpec)

/-- 'laws.FnExactSemigroupPolynomial', WHERE WHAT IT READS IS OF BULK AT MOST 1048576: true; the input reads as it did. -/
def fnExactSemigroupPolynomialUptoRow : OpenClaim := { program := "ythpnmkghjnipoaa", sum := "00ecef80a63660b520a56b3cec799dffef2918b0d0b4c6730c9f3a27224ed753", func := "loop.example/g01140/laws.FnExactSemigroupPolynomial", spec := "fnExactSemigroupPolynomial", unfollowed := true, recurses := true, apart := false, narrowed := true }
def FnExactSemigroupPolynomialUptoSaid : Prop := fnExactSemigroupPolynomialUptoRow.holds Try.pinned (OpenSpec.upto fnExactSemigroupPolynomialSpec)

/-- 'laws.FnExactCountSatellites', WHERE WHAT IT READS IS OF BULK AT MOST 1048576: true; the input reads as it did. -/
def fnExactCountSatellitesUptoRow : OpenClaim := { program := "ythpnmkghjnipoaa", sum := "00ecef80a63660b520a56b3cec799dffef2918b0d0b4c6730c9f3a27224ed753", func := "loop.example/g01140/laws.FnExactCountSatellites", spec := "fnExactCountSatellites", apart := false, narrowed := true }
def FnExactCountSatellitesUptoSaid : Prop := fnExactCountSatellitesUptoRow.holds Try.pinned (OpenSpec.upto fnExactCountSatellitesSpec)

/-- 'laws.FnExactCodeOf', WHERE WHAT IT READS IS OF BULK AT MOST 1048576: true; the input reads as it did. -/
def fnExactCodeOfUptoRow : OpenClaim := { program := "ythpnmkghjnipoaa", sum := "00ecef80a63660b520a56b3cec799dffef2918b0d0b4c6730c9f3a27224ed753", func := "loop.example/g01140/laws.FnExactCodeOf", spec := "fnExactCodeOf", apart := false, narrowed := true }
def FnExactCodeOfUptoSaid : Prop := fnExactCodeOfUptoRow.holds Try.pinned (OpenSpec.upto fnExactCodeOfSpec)

/-- 'laws.FnExactOrdersOf', WHERE WHAT IT READS IS OF BULK AT MOST 1048576: true; the input reads as it did. -/
def fnExactOrdersOfUptoRow : OpenClaim := { program := "ythpnmkghjnipoaa", sum := "00ecef80a63660b520a56b3cec799dffef2918b0d0b4c6730c9f3a27224ed753", func := "loop.example/g01140/laws.FnExactOrdersOf", spec := "fnExactOrdersOf", unfollowed := true, recurses := true, apart := false, narrowed := true }
def FnExactOrdersOfUptoSaid : Prop := fnExactOrdersOfUptoRow.holds Try.pinned (OpenSpec.upto fnExactOrdersOfSpec)

/-- 'laws.FnExactProximatesOf', WHERE WHAT IT READS IS OF BULK AT MOST 1048576: true; the input reads as it did. -/
def fnExactProximatesOfUptoRow : OpenClaim := { program := "ythpnmkghjnipoaa", sum := "00ecef80a63660b520a56b3cec799dffef2918b0d0b4c6730c9f3a27224ed753", func := "loop.example/g01140/laws.FnExactProximatesOf", spec := "fnExactProximatesOf", apart := false, narrowed := true }
def FnExactProximatesOfUptoSaid : Prop := fnExactProximatesOfUptoRow.holds Try.pinned (OpenSpec.upto fnExactProximatesOfSpec)

/-- 'laws.FnExactClusterOfBranch', WHERE WHAT IT READS IS OF BULK AT MOST 1048576: true; the input reads as it did. -/
def fnExactClusterOfBranchUptoRow : OpenClaim := { program := "ythpnmkghjnipoaa", sum := "00ecef80a63660b520a56b3cec799dffef2918b0d0b4c6730c9f3a27224ed753", func := "loop.example/g01140/laws.FnExactClusterOfBranch", spec := "fnExactClusterOfBranch", apart := false, narrowed := true }
def FnExactClusterOfBranchUptoSaid : Prop := fnExactClusterOfBranchUptoRow.holds Try.pinned (OpenSpec.upto fnExactClusterOfBranchSpec)

/-- 'laws.FnExactMeetCurvette', WHERE WHAT IT READS IS OF BULK AT MOST 1048576: true; the input reads as it did. -/
def fnExactMeetCurvetteUptoRow : OpenClaim := { program := "ythpnmkghjnipoaa", sum := "00ecef80a63660b520a56b3cec799dffef2918b0d0b4c6730c9f3a27224ed753", func := "loop.example/g01140/laws.FnExactMeetCurvette", spec := "fnExactMeetCurvette", apart := false, narrowed := true }
def FnExactMeetCurvetteUptoSaid : Prop := fnExactMeetCurvetteUptoRow.holds Try.pinned (OpenSpec.upto fnExactMeetCurvetteSpec)

/-- 'laws.FnExactDiscrepanciesOf', WHERE WHAT IT READS IS OF BULK AT MOST 1048576: true; the input reads as it did. -/
def fnExactDiscrepanciesOfUptoRow : OpenClaim := { program := "ythpnmkghjnipoaa", sum := "00ecef80a63660b520a56b3cec799dffef2918b0d0b4c6730c9f3a27224ed753", func := "loop.example/g01140/laws.FnExactDiscrepanciesOf", spec := "fnExactDiscrepanciesOf", apart := false, narrowed := true }
def FnExactDiscrepanciesOfUptoSaid : Prop := fnExactDiscrepanciesOfUptoRow.holds Try.pinned (OpenSpec.upto fnExactDiscrepanciesOfSpec)

/-- 'laws.FnExactCurvetteOfCode', WHERE WHAT IT READS IS OF BULK AT MOST 1048576: true; the input reads as it did. -/
def fnExactCurvetteOfCodeUptoRow : OpenClaim := { program := "ythpnmkghjnipoaa", sum := "00ecef80a63660b520a56b3cec799dffef2918b0d0b4c6730c9f3a27224ed753", func := "loop.example/g01140/laws.FnExactCurvetteOfCode", spec := "fnExactCurvetteOfCode", apart := false, narrowed := true }
def FnExactCurvetteOfCodeUptoSaid : Prop := fnExactCurvetteOfCodeUptoRow.holds Try.pinned (OpenSpec.upto fnExactCurvetteOfCodeSpec)

/-- 'laws.FnExactMultiplierCluster', WHERE WHAT IT READS IS OF BULK AT MOST 1048576: true; the input reads as it did. -/
def fnExactMultiplierClusterUptoRow : OpenClaim := { program := "ythpnmkghjnipoaa", sum := "00ecef80a63660b520a56b3cec799dffef2918b0d0b4c6730c9f3a27224ed753", func := "loop.example/g01140/laws.FnExactMultiplierCluster", spec := "fnExactMultiplierCluster", unfollowed := true, recurses := true, apart := false, narrowed := true }
def FnExactMultiplierClusterUptoSaid : Prop := fnExactMultiplierClusterUptoRow.holds Try.pinned (OpenSpec.upto fnExactMultiplierClusterSpec)

/-- 'laws.FnExactCurvetteAt', WHERE WHAT IT READS IS OF BULK AT MOST 1048576: true; the input reads as it did. -/
def fnExactCurvetteAtUptoRow : OpenClaim := { program := "ythpnmkghjnipoaa", sum := "00ecef80a63660b520a56b3cec799dffef2918b0d0b4c6730c9f3a27224ed753", func := "loop.example/g01140/laws.FnExactCurvetteAt", spec := "fnExactCurvetteAt", apart := false, narrowed := true }
def FnExactCurvetteAtUptoSaid : Prop := fnExactCurvetteAtUptoRow.holds Try.pinned (OpenSpec.upto fnExactCurvetteAtSpec)

/-- 'laws.FnExactBranchAtPoint', WHERE WHAT IT READS IS OF BULK AT MOST 1048576: true; the input reads as it did. -/
def fnExactBranchAtPointUptoRow : OpenClaim := { program := "ythpnmkghjnipoaa", sum := "00ecef80a63660b520a56b3cec799dffef2918b0d0b4c6730c9f3a27224ed753", func := "loop.example/g01140/laws.FnExactBranchAtPoint", spec := "fnExactBranchAtPoint", apart := false, narrowed := true }
def FnExactBranchAtPointUptoSaid : Prop := fnExactBranchAtPointUptoRow.holds Try.pinned (OpenSpec.upto fnExactBranchAtPointSpec)

end Rows
end Go.Proofs.Ythpnmkghjnipoaa
