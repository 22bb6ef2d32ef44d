/- Contracts of chapter 14: IsFiltration, of the program and of the reference. -/
import Derived.Test.YtgdmfihnbbgcoaaGreatDoor14x
namespace Go.Proofs.YtgdmfihnbbgcoaaGreatDoor
open Go.RowKit
set_option linter.unusedVariables false
set_option linter.unusedSimpArgs false
end Go.Proofs.YtgdmfihnbbgcoaaGreatDoor
