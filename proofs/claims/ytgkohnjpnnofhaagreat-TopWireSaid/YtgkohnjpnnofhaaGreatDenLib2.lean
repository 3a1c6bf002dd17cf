/- A reader of Go code in plain values: lemmas on what is owned. -/
import Derived.Test.YtgkohnjpnnofhaaGreatDenLib
namespace Go.Proofs.YtgkohnjpnnofhaaGreat.Den
set_option linter.unusedSimpArgs false
set_option linter.unusedVariables false
open Go.RowKit
def oslR (x : V) : Option (List (List V)) := match x with
 | .osl _ rows => some rows
 | _ => none
theorem d_inB {n : Nat} {k : IntKind} {i : Int} (h : 0 ≤ i ∧ i.toNat < n) : inB n (.lit (.int k i)) = some .any := if_pos h
def numsOf (s : ByteArray) : List Int := s.data.toList.map fun x => (x.toNat : Int)
theorem numsOf_len (s : ByteArray) : (numsOf s).length = s.size := by simp [numsOf]
theorem bytesR_rows (s : ByteArray) : bytesR s = (numsOf s).map brow := by
 simp [bytesR, numsOf, brow]
end Go.Proofs.YtgkohnjpnnofhaaGreat.Den
