/- Contracts: impl.reduced, spec.l01Make at a positive denominator. -/
import Derived.Test.YthpnmkghjnipoaaBraPure
import Derived.Test.YthpnmkghjnipoaaL03Is
import Derived.Test.YthpnmkghjnipoaaMem
namespace Go.Proofs.Ythpnmkghjnipoaa
open Go.RowKit

end Go.Proofs.Ythpnmkghjnipoaa
