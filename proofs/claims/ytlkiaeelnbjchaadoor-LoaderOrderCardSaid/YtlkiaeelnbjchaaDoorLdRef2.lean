/- Contract of the reference's Pieces. (Layer 27) -/
import Derived.Test.YtlkiaeelnbjchaaDoorLdRef1
namespace Go.Proofs.YtlkiaeelnbjchaaDoor
open Go.RowKit
open Go.Lib hiding intOf
set_option linter.unusedVariables false

end Go.Proofs.YtlkiaeelnbjchaaDoor
