/- Walks: Steps -/
import Derived.Test.YtkiliooegoldoaaTre
import Derived.Test.YtkiliooegoldoaaE6
set_option linter.unusedVariables false
set_option linter.unusedSimpArgs false
namespace Go.Proofs.Ytkiliooegoldoaa
open Go


end Go.Proofs.Ytkiliooegoldoaa
