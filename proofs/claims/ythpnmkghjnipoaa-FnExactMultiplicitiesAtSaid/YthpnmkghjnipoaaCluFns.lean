/- Contracts of the two programs' functions on one cluster: IsCluster. -/
import Derived.Test.YthpnmkghjnipoaaNear
import Derived.Test.YthpnmkghjnipoaaHelpC
namespace Go.Proofs.Ythpnmkghjnipoaa
open Go.RowKit

end Go.Proofs.Ythpnmkghjnipoaa
