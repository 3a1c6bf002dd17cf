/- A reader of Go code in plain values: lemmas on what is owned. -/
import Derived.Test.YtgfleiknigjnbaaDoorDenLib
namespace Go.Proofs.YtgfleiknigjnbaaDoor.Den
open Go.RowKit
set_option linter.unusedSimpArgs false
set_option linter.unusedVariables false

def oslR (x : V) : Option (List (List V)) := match x with
  | .osl _ rows => some rows
  | _ => none
theorem d_oslR {k : Nat} {rows : List (List V)} : oslR (.osl k rows) = some rows := rfl
theorem d_inB {n : Nat} {k : IntKind} {i : Int} (h : 0 ≤ i ∧ i.toNat < n) : inB n (.lit (.int k i)) = some .any := if_pos h
theorem d_natOf {k : IntKind} {i : Int} : natOf (.lit (.int k i)) = i.toNat := rfl
theorem d_s2bT {s : ByteArray} (h : s.size ≤ maxLen) : s2bT (.lit (.string s)) = some (.osl 1 (bytesR s)) := if_pos h
/-- the bytes of a text -/
def numsOf (s : ByteArray) : List Int := s.data.toList.map fun x => (x.toNat : Int)
theorem numsOf_len (s : ByteArray) : (numsOf s).length = s.size := by simp [numsOf]
theorem numsOf_at (s : ByteArray) (j : Nat) (h : j < (numsOf s).length) : (numsOf s)[j] = bAt s j := by
  unfold numsOf at h ⊢
  rw [List.length_map] at h
  rw [List.getElem_map]
  unfold bAt
  rw [List.getD_eq_getElem?_getD, List.getElem?_eq_getElem h]
  rfl
theorem bytesR_rows (s : ByteArray) : bytesR s = (numsOf s).map brow := by
  simp [bytesR, numsOf, brow]
theorem strOf_numsOf (s : ByteArray) : strOfNums (numsOf s) = s := by
  unfold strOfNums numsOf
  rw [List.map_map]
  have : (fun n : Int => UInt8.ofNat n.toNat) ∘ (fun x : UInt8 => (x.toNat : Int)) = id := by
    funext x
    simp
  rw [this]
  simp
/-- one element of a slice is written, one cell each -/
theorem d_setOsl {rows : List (List V)} {i : Nat} {x y : V} (h : rows[i]? = some [x]) : setV (.osl 1 rows) [] (Stp.mk (some i) 0 1) 1 [y] = some (.osl 1 (rows.set i [y])) := by
  simp [setV, setN, h, spliceO]
theorem set_brow (l : List Int) (i : Nat) (z : Int) : (l.map brow).set i [V.lit (.int .u8 z)] = (l.set i z).map brow := by
  rw [List.map_set]
end Go.Proofs.YtgfleiknigjnbaaDoor.Den
