/- Contracts of the two programs' functions on one cluster: IsCluster. -/
import Derived.Test.YthfdkigljbdogaaNear
import Derived.Test.YthfdkigljbdogaaHelpC
namespace Go.Proofs.Ythfdkigljbdogaa
open Go.RowKit

end Go.Proofs.Ythfdkigljbdogaa
