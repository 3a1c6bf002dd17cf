/- Plain types: copies. -/
import Derived.Test.YtgfleiknigjnbaaDoorTy
import Derived.Test.YtgfleiknigjnbaaDoorDenR
namespace Go.Proofs.YtgfleiknigjnbaaDoor.Ty
open Go Go.RowKit Go.Proofs.YtgfleiknigjnbaaDoor.Den
/-- slices.Clone -/
def cln {α : Type} (l : List α) : Option (List α) := if l.length ≤ 4294967296 then some l else none
theorem p_clone {α : Type} {c : α → List V} {k : Nat} (hc : ∀ x, (c x).length = k) (l : List α) : Rv (fun l : List α => V.sl (List.map c l)) (semClone k [V.sl (List.map c l)]) (cln l) := by
  intro y hy
  unfold cln at hy
  split at hy
  · rename_i h
    obtain rfl := Option.some.inj hy
    simp [semClone, hc, h]
  · cases hy
theorem p_cloneM {α : Type} {c : α → List V} {k : Nat} (hc : ∀ x, (c x).length = k) (l : List α) : Rv (fun l : List α => V.tup [V.osl k (List.map c l), V.any]) (semCloneM k [V.sl (List.map c l)]) (cln l) := by
  intro y hy
  unfold cln at hy
  split at hy
  · rename_i h
    obtain rfl := Option.some.inj hy
    simp [semCloneM, hc, h]
  · cases hy
end Go.Proofs.YtgfleiknigjnbaaDoor.Ty
