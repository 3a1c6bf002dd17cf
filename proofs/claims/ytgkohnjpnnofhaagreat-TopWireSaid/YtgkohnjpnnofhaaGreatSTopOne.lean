/- The closed fact that railtop begins with. -/
import Derived.Test.YtgkohnjpnnofhaaGreatTyA
import Derived.Test.YtgkohnjpnnofhaaGreatSBase
namespace Go.Proofs.YtgkohnjpnnofhaaGreat.Ty
open Go Go.RowKit Go.Proofs.YtgkohnjpnnofhaaGreat.Den
set_option maxRecDepth 100000
theorem one_ok : t_railtop_one = some true := rfl
end Go.Proofs.YtgkohnjpnnofhaaGreat.Ty
