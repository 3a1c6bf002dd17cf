/- What the row's list gives a seat of rules' texts: strconv's table and errors, bytealg's bound; a world for the witness. -/
import Derived.Test.YtpbfogklmhgfoaaDoorShelfT
import Derived.Test.YtpbfogklmhgfoaaDoorRows
import Derived.LaidLaws
import Derived.LaidHandle
import Derived.MakeChecks
import Derived.OpenShut
import Derived.FnData
import Derived.LaidMore
import Derived.Lay
import Derived.LaidOnce
import Derived.Lib.LaidTab
import Derived.Stop.LaidErr
import Derived.Stop.Joined
namespace Go.Proofs.YtpbfogklmhgfoaaDoor
open Go.ChangeShapes Go.WideShapes Go.RowKit
set_option maxRecDepth 100000

theorem own_ : ownKnob Tryd.prog.godebug = none := by kernel_rfl
/-- the list of the given rows -/
def doorList (_ : Type) : List (String × DataW Unit) := [("math/bits.deBruijn32tab", Rows.laid_math_bits_deBruijn32tab), ("math/bits.deBruijn64tab", Rows.laid_math_bits_deBruijn64tab), ("internal/strconv.uint64pow10", Rows.laid_internal_strconv_uint64pow10), ("unicode/utf8.acceptRanges", Rows.laid_unicode_utf8_acceptRanges), ("strconv.ErrRange", Rows.laid_strconv_ErrRange), ("strconv.ErrSyntax", Rows.laid_strconv_ErrSyntax), ("unicode/utf8.first", Rows.laid_unicode_utf8_first)]
theorem starE : "*" ++ "errors.errorString" = "*errors.errorString" := by decide
theorem rowE (u : TypeId) (h : Tryd.prog.typeName? 3 u = some "*errors.errorString") : u = 108 :=
  typeName_ptr_named (nm := "errors.errorString") (by rw [starE]; kernel_rfl) (by kernel_rfl) (by decide) u (by rw [starE]; exact h)
theorem door_of_laid {W : World} (h : laidMetH Tryd.prog (doorList Unit) W) (hsh : W.ShapedOpen Tryd.prog) : Den.DW W := by
  rw [MakeChecks.laidMetH_plain _ _ _ (by kernel_rfl)] at h
  have cE : Tryd.prog.cellsOf 110 = 1 := by kernel_rfl
  have cS : Tryd.prog.cellsOf 9 = 1 := by kernel_rfl
  obtain ⟨a0, s0, hv0, -, -, -⟩ := laid_sentinel h.tail.tail.tail.tail (show Tryd.prog.globalNamed "strconv.ErrRange" = some 3 by kernel_rfl) (show (Tryd.prog.globals[3]?).map (·.type) = some 29 by kernel_rfl) Tryd.underlying29 rowE Tryd.underlying108 Tryd.underlying110 rfl rfl Tryd.underlying9 cE cS
  obtain ⟨a1, s1, hv1, -, -, -⟩ := laid_sentinel h.tail.tail.tail.tail.tail (show Tryd.prog.globalNamed "strconv.ErrSyntax" = some 2 by kernel_rfl) (show (Tryd.prog.globals[2]?).map (·.type) = some 29 by kernel_rfl) Tryd.underlying29 rowE Tryd.underlying108 Tryd.underlying110 rfl rfl Tryd.underlying9 cE cS
  have c0 := World.var?_cell (show Tryd.prog.globalNamed "strconv.ErrRange" = some 3 by kernel_rfl) hv0 0
  have c1 := World.var?_cell (show Tryd.prog.globalNamed "strconv.ErrSyntax" = some 2 by kernel_rfl) hv1 0
  exact ⟨Lib.tabIs_of_head (zs := Lib.pow10Tab) (k := .u64) (show Tryd.prog.globalNamed "internal/strconv.uint64pow10" = some 1 by kernel_rfl) (show (Tryd.prog.globals[1]?).map (·.type) = some 88 by kernel_rfl) Tryd.underlying88 Tryd.underlying74 (by kernel_rfl) (by kernel_rfl) (by rw [show Lib.tabData .u64 Lib.pow10Tab = Rows.laid_internal_strconv_uint64pow10 by kernel_rfl]; exact h.tail.tail), ⟨_, _, by simpa using c1⟩, ⟨_, _, by simpa using c0⟩, Den.lSplit.s1_3 W hsh⟩

/-- a world that meets the list -/
noncomputable def laidWorld (os : Os) : World := World.laidAll Tryd.prog os (doorList Unit)
theorem laidWorld_met (os : Os) (args : Array Value) : laidMetH Tryd.prog (doorList Unit) ((laidWorld os).forCall (fun _ _ => 0) ⟨#[], args, []⟩).memory := by
  rw [MakeChecks.laidMetH_plain _ _ _ (by kernel_rfl)]
  exact laidMet_laidAll _ (by kernel_rfl) (by kernel_rfl)
end Go.Proofs.YtpbfogklmhgfoaaDoor
