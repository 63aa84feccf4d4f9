/- The conditions of functions, off their texts. Printed by a program; Lean checks each one. -/
import Derived.Test.YtmbfkhacejnnhaaNames
import Derived.Test.YtmbfkhacejnnhaaV9
namespace Go.Proofs.Ytmbfkhacejnnhaa
open Go Go.V
set_option maxRecDepth 100000
end Go.Proofs.Ytmbfkhacejnnhaa
