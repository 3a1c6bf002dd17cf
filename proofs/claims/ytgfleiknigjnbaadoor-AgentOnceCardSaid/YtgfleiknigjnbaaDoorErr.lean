/- railsame.Error: is an error the one told? -/
import Derived.Test.YtgfleiknigjnbaaDoorToldWalk
import Derived.Test.YtgfleiknigjnbaaDoorCube
namespace Go.Proofs.YtgfleiknigjnbaaDoor
open Go.RowKit
set_option maxRecDepth 100000
set_option linter.unusedSimpArgs false
set_option linter.unusedVariables false

theorem told_any (x : Int) (w : World) (hd : Door w) : Calls Tryd.prog 39 #[errOf x] w fun e w' => e = .returned (.int .i64 x) ∧ Below w.heap.size w w' := by
  unfold errOf
  split
  · rename_i h
    subst h
    exact told_nil w
  · exact told_errno x w hd
set_option maxHeartbeats 400000 in
theorem error_any (x y : Int) (w : World) (hd : Door w) : Calls Tryd.prog 9 #[errOf x, .int .i64 y] w fun e w' => e = .returned (.bool (decide (x = y))) ∧ Below w.heap.size w w' := by
  have H := Lib.hid (told_any x w hd)
  generalize errOf x = v at H ⊢
  clear hd
  go_enter Tryd.func9, Tryd.ntmps9
  go_wp2_with (go_at_call 39; refine H.out.mono ?_; rintro e w2 ⟨rfl, hb2⟩)
  go_ret
  refine ⟨?_, by first | exact hb2 | go_grown⟩
  refine ret_bool ?_
  first | rfl | (rw [Bool.eq_iff_iff]; simp)
end Go.Proofs.YtgfleiknigjnbaaDoor
