/- slices.Clone at each type: a new row that holds what the old one holds. -/
import Derived.Test.YtpbfogklmhgfoaaDoorDenR
import Derived.Test.YtpbfogklmhgfoaaDoorDenNums
import Derived.Test.YtpbfogklmhgfoaaDoorRows
import Derived.WalkKit
import Derived.WalkSpells
import Derived.WalkLawsBesides
import Derived.Handy
import Derived.Deep.Light
import Derived.Deep.RegionLaw
import Derived.Lib.SliceRun
import Derived.Lib.Hide
namespace Go.Proofs.YtpbfogklmhgfoaaDoor.Den
open Go.RowKit
set_option maxRecDepth 100000

end Go.Proofs.YtpbfogklmhgfoaaDoor.Den
