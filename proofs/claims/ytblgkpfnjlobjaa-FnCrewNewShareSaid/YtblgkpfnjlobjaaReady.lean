/- What is ready: the program's way. -/
import Derived.Test.YtblgkpfnjlobjaaReady0
namespace Go.Proofs.Ytblgkpfnjlobjaa
open Go Go.V

end Go.Proofs.Ytblgkpfnjlobjaa
