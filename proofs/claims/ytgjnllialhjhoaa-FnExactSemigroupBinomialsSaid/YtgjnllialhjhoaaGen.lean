/- Contracts: GeneratorsOf. -/
import Derived.Test.YtgjnllialhjhoaaGenI
import Derived.Test.YtgjnllialhjhoaaGenS
namespace Go.Proofs.Ytgjnllialhjhoaa
open Go.RowKit

end Go.Proofs.Ytgjnllialhjhoaa
