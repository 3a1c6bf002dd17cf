/- What the functions of package cube come to. -/
import Derived.Test.YtilbgbhpdjjliaaGreatDoorRows
import Derived.Test.YtilbgbhpdjjliaaGreatDoorPlain
import Derived.WalkKit
import Derived.WalkSpells
import Derived.WalkLawsBesides
import Derived.Handy
import Derived.Deep.Light
import Derived.Lib.Hide
namespace Go.Proofs.YtilbgbhpdjjliaaGreatDoor
open Go.RowKit
set_option linter.unusedSimpArgs false
set_option linter.unusedVariables false
def errOf (n : Int) : Value := if n = 0 then .nilIface else .iface 86 (.int .i64 n)
theorem errOf_ne {n : Int} (h : n ≠ 0) : errOf n = .iface 86 (.int .i64 n) := by simp [errOf, h]
end Go.Proofs.YtilbgbhpdjjliaaGreatDoor
