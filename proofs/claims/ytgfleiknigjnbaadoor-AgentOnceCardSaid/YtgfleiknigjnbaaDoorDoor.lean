/- What the row's list gives a door seat: the cell of errors.errorType; a world for the witness. TURNED from the kit's worked toy of errors.As. -/
import Derived.Test.YtgfleiknigjnbaaDoorToldWalk
import Derived.LaidLaws
import Derived.LaidHandle
import Derived.Stop.Joined
namespace Go.Proofs.YtgfleiknigjnbaaDoor
open Go.ChangeShapes Go.WideShapes Go.RowKit
set_option maxRecDepth 100000

theorem own_ : ownKnob Tryd.prog.godebug = none := by kernel_rfl
theorem k_et : Tryd.prog.globalNamed "errors.errorType" = some 0 := by kernel_rfl
theorem k_rt : (Tryd.prog.cutTypes.find? (·.1 == "internal/reflectlite.rtype")).map (·.2) = some 168 := by kernel_rfl
theorem k_oneRow : ((List.range 232).filter fun t => Tryd.prog.rowNamed t [101, 114, 114, 111, 114]) = [27] := by kernel_rfl
theorem k_ntypes : Tryd.prog.types.size = 232 := by kernel_rfl
/-- the list of the given rows: one handle -/
def doorList (H : Type) : List (String × DataW H) := [("errors.errorType", Rows.laid_errors_errorType)]
theorem door_of_laid {W : World} (h : laidMetH Tryd.prog (doorList Unit) W) : Door W := by
  have h' : laidMet Tryd.prog [] W ∧ handlesMet Tryd.prog (doorList Unit) W := h
  obtain ⟨name, u, ty, e1, e2, e3, e4, e5⟩ := h'.2 _ (List.mem_singleton.2 rfl)
  have en : name = [101, 114, 114, 111, 114] := (Option.some.inj e1).symm
  subst en
  obtain rfl := Option.some.inj (k_rt.symm.trans e2)
  have hm : ty ∈ (List.range 232).filter fun t => Tryd.prog.rowNamed t [101, 114, 114, 111, 114] := List.mem_filter.2 ⟨List.mem_range.2 (by rw [← k_ntypes]; exact e3), e4⟩
  rw [k_oneRow] at hm
  obtain rfl := List.mem_singleton.1 hm
  have hh : typeHandle Tryd.prog 27 = .pointer (some ⟨1, 27, none⟩) := by kernel_rfl
  rw [hh] at e5
  unfold Door
  simpa using World.var?_cell k_et e5 0

/-- a world that meets the list: the settled one, the cell laid -/
noncomputable def laidWorld (os : Os) : World :=
  let w0 := World.holding Tryd.prog os ⟨#[], #[], []⟩
  { w0 with heap := w0.heap.modify 0 fun
      | .cells _ t frozen => .cells #[.iface 168 (.agg #[.pointer (some ⟨1, 27, none⟩)])] t frozen
      | o => o }
theorem laidWorld_met (os : Os) (args : Array Value) : laidMetH Tryd.prog (doorList Unit) ((laidWorld os).forCall (fun _ _ => 0) ⟨#[], args, []⟩).memory :=
  laidMetH_of_parts (laidMet_nil _ _) (by kernel_rfl)
end Go.Proofs.YtgfleiknigjnbaaDoor
