/- Contracts: the laws' own helpers: flat types. (printed by gen.py) -/
import Derived.Test.YtaibcmhhccanoaaGreatDA
set_option linter.unusedVariables false
set_option linter.unusedSimpArgs false
namespace Go.Proofs.YtaibcmhhccanoaaGreat.AM
open Go Go.Proofs

set_option maxRecDepth 100000
set_option linter.unusedVariables false
set_option linter.unusedSimpArgs false

variable {P : Program} {A : Sy}

end Go.Proofs.YtaibcmhhccanoaaGreat.AM
