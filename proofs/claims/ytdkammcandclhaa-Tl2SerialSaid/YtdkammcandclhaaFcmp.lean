/- The program by the evaluator's limit: what its functions come to. -/
import Derived.Test.YtdkammcandclhaaF0
namespace Go.Lg.Try
open Go Go.Proofs
set_option linter.unusedVariables false
set_option maxRecDepth 1000000
end Go.Lg.Try
