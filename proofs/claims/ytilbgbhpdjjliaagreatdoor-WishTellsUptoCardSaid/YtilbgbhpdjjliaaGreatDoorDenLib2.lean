/- A reader of Go code in plain values: lemmas on what is owned. -/
import Derived.Test.YtilbgbhpdjjliaaGreatDoorDenLib
namespace Go.Proofs.YtilbgbhpdjjliaaGreatDoor.Den
open Go.RowKit
set_option linter.unusedSimpArgs false
set_option linter.unusedVariables false
def oslR (x : V) : Option (List (List V)) := match x with
 | .osl _ rows => some rows
 | _ => none
def numsOf (s : ByteArray) : List Int := s.data.toList.map fun x => (x.toNat : Int)
theorem numsOf_len (s : ByteArray) : (numsOf s).length = s.size := by simp [numsOf]
theorem numsOf_at (s : ByteArray) (j : Nat) (h : j < (numsOf s).length) : (numsOf s)[j] = bAt s j := by
 unfold numsOf at h ⊢
 rw [List.length_map] at h
 rw [List.getElem_map]
 unfold bAt
 rw [List.getD_eq_getElem?_getD, List.getElem?_eq_getElem h]
 rfl
theorem bytesR_rows (s : ByteArray) : bytesR s = (numsOf s).map brow := by
 simp [bytesR, numsOf, brow]
end Go.Proofs.YtilbgbhpdjjliaaGreatDoor.Den
