/- Escapes (the reference's), figures, numbers: contracts. No condition. -/
import Derived.Test.YthagllbnkbahnaaDoorTxB
set_option linter.unusedVariables false
set_option linter.unusedSimpArgs false
namespace Go.Proofs.YthagllbnkbahnaaDoor.Abs
open Go
set_option maxHeartbeats 1000000
set_option maxRecDepth 100000
end Go.Proofs.YthagllbnkbahnaaDoor.Abs
