/- Functions on plain types: the asking of errors. -/
import Derived.Test.YtgfleiknigjnbaaDoorTy
import Derived.Test.YtgfleiknigjnbaaDoorDenDoor
namespace Go.Proofs.YtgfleiknigjnbaaDoor.Ty
open Go Go.RowKit Go.Proofs.YtgfleiknigjnbaaDoor.Den
theorem eV_errOf (n : Int) : eV n = .lit (errOf n) := rfl
def t_railsame_Error (e y : Int) : Option Bool := some (decide (e = y))
theorem ty_railsame_Error {n : Nat} (e y : Int) : Rv (fun x : Bool => vb x) (sem_Error n [eV e, vi y]) (t_railsame_Error e y) := rf_eq (s_Error n e y) rfl
end Go.Proofs.YtgfleiknigjnbaaDoor.Ty
