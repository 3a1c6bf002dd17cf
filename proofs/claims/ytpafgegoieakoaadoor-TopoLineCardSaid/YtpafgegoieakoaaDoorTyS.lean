/- Plain types: slices of int that are sorted, or cut, in place. -/
import Derived.Test.YtpafgegoieakoaaDoorTy
import Derived.Test.YtpafgegoieakoaaDoorDenS
namespace Go.Proofs.YtpafgegoieakoaaDoor.Ty
open Go Go.RowKit Go.Proofs.YtpafgegoieakoaaDoor.Den
def sortI (l : List Int) : Option (List Int) := if l.length ≤ 4294967296 then some (l.mergeSort fun x y => decide (x ≤ y)) else none
def compactI (l : List Int) : Option (List Int) := if l.length ≤ 4294967296 then some (Lib.compact l) else none
theorem p_sort (l : List Int) : Rv (fun x : List Int => V.tup [V.tup [], V.osl 1 (List.map cI x)]) (semSort [V.osl 1 (List.map cI l)]) (sortI l) := by
  intro y hy
  unfold sortI at hy
  split at hy
  · rename_i h
    obtain rfl := Option.some.inj hy
    show ((intsR (l.map cInt)).bind _) = _
    rw [intsR_map, Option.bind_some, if_pos h]
    rfl
  · cases hy
theorem p_compact (l : List Int) : Rv (fun x : List Int => V.tup [V.sl (List.map cI x), V.any]) (semCompact [V.osl 1 (List.map cI l)]) (compactI l) := by
  intro y hy
  unfold compactI at hy
  split at hy
  · rename_i h
    obtain rfl := Option.some.inj hy
    show ((intsR (l.map cInt)).bind _) = _
    rw [intsR_map, Option.bind_some, if_pos h]
    rfl
  · cases hy
end Go.Proofs.YtpafgegoieakoaaDoor.Ty
