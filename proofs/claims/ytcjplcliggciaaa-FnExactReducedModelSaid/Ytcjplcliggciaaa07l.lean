/- Contracts of BisimulationClasses, of the program: arguments that are no model. -/
import Derived.Test.Ytcjplcliggciaaa07p
import Derived.Test.Ytcjplcliggciaaa07j
namespace Go.Proofs.Ytcjplcliggciaaa
open Go.RowKit
set_option linter.unusedVariables false
set_option linter.unusedSimpArgs false
end Go.Proofs.Ytcjplcliggciaaa
