/- Contracts of the two programs' functions on one cluster: IsCluster. -/
import Derived.Test.YtgjnllialhjhoaaNear
import Derived.Test.YtgjnllialhjhoaaHelpC
namespace Go.Proofs.Ytgjnllialhjhoaa
open Go.RowKit

end Go.Proofs.Ytgjnllialhjhoaa
