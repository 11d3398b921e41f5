/- Contracts: GeneratorsOf. -/
import Derived.Test.YthpnmkghjnipoaaGenI
import Derived.Test.YthpnmkghjnipoaaGenS
namespace Go.Proofs.Ythpnmkghjnipoaa
open Go.RowKit

end Go.Proofs.Ythpnmkghjnipoaa
