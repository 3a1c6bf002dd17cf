/- How many ops of a round an agent has heard: a walk. -/
import Derived.Test.YtgkohnjpnnofhaaGreatDenPlain
import Derived.Test.YtgkohnjpnnofhaaGreatQuiet
import Derived.Test.YtgkohnjpnnofhaaGreatPlain
namespace Go.Proofs.YtgkohnjpnnofhaaGreat.Den
set_option linter.unusedSimpArgs false
set_option linter.unusedVariables false
open Go Go.RowKit Go.Proofs.YtgkohnjpnnofhaaGreat
set_option maxRecDepth 100000
def semL_Heard (xs : List V) : Option V := match xs with
 | [.obj l, .lit (.int .i64 i)] => if i < 0 ∨ 20 ≤ i then some (.lit (.int .i64 0)) else (l[2 + i.toNat * 3]?).bind lenM
 | _ => none
end Go.Proofs.YtgkohnjpnnofhaaGreat.Den
