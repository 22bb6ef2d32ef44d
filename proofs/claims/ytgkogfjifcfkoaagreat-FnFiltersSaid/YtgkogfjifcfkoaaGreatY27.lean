/- Plain law of the meet of Traces: what the program computes is what the reference lists. No program in sight. -/
import Derived.Test.YtgkogfjifcfkoaaGreatY03
import Derived.Lib.SlicesCompact
namespace Go.Proofs.YtgkogfjifcfkoaaGreat
set_option linter.unusedVariables false
end Go.Proofs.YtgkogfjifcfkoaaGreat
