/- Contracts of BoxTrace of the reference. Written by gen32z2.py. -/
import Derived.Test.Ytbejakkcdbhmaaa32z
namespace Go.Proofs.Ytbejakkcdbhmaaa
open Go.RowKit
set_option linter.unusedVariables false
set_option linter.unusedSimpArgs false
end Go.Proofs.Ytbejakkcdbhmaaa
