/- What is ready; orders. -/
import Derived.Test.YtblgkpfnjlobjaaCopy
import Derived.Test.YtblgkpfnjlobjaaHas
namespace Go.Proofs.Ytblgkpfnjlobjaa
open Go Go.V

end Go.Proofs.Ytblgkpfnjlobjaa
