/- Functions on plain types: the asking of errors. -/
import Derived.Test.YtilbgbhpdjjliaaGreatDoorTy
import Derived.Test.YtilbgbhpdjjliaaGreatDoorDenGreat
namespace Go.Proofs.YtilbgbhpdjjliaaGreatDoor.Ty
open Go Go.RowKit Go.Proofs.YtilbgbhpdjjliaaGreatDoor.Den
theorem eV_errOf (n : Int) : eV n = .lit (errOf n) := rfl
def t_railsame_Error (e y : Int) : Option Bool := some (decide (e = y))
theorem ty_railsame_Error {n : Nat} (e y : Int) : Rv (fun x : Bool => vb x) (sem_Error n [eV e, vi y]) (t_railsame_Error e y) := rf_eq (s_Error n e y) rfl
end Go.Proofs.YtilbgbhpdjjliaaGreatDoor.Ty
