/- railref1.ShowCube: the plain part (builds); the walk is lacking. -/
import Derived.Test.YtpkcdfgjcodidaaDoorRefCube3
import Derived.Test.YtpkcdfgjcodidaaDoorText
namespace Go.Proofs.YtpkcdfgjcodidaaDoor
open Go.RowKit
set_option maxRecDepth 100000
set_option linter.unusedSimpArgs false
set_option linter.unusedVariables false

/-- the signs of a cube's text at the places below k -/
def chs (m b : Int) (k : Nat) : List Int := (List.range k).map (ch m b)
theorem chs_succ (m b : Int) (k : Nat) : chs m b (k + 1) = chs m b k ++ [ch m b k] := by simp [chs, List.range_succ]
theorem chs_4 (m b : Int) : strOfNums (chs m b 4) = cshow m b := rfl
/-- the document's sign is the program's -/
theorem ch_bit : ∀ m b : Fin 16, ∀ k : Fin 4, ch ((m.val : Nat) : Int) ((b.val : Nat) : Int) k.val = if m.val / 2 ^ (3 - k.val) % 2 = 1 then (if b.val / 2 ^ (3 - k.val) % 2 = 1 then 49 else 48) else 42 := by decide +kernel
theorem sadd (xs : List Int) (c : Int) (h0 : 0 ≤ c) (h1 : c < 256) : strOfNums xs ++ strOfNums [c] = strOfNums (xs ++ [c]) := by
  apply ByteArray.ext
  simp [strOfNums]
end Go.Proofs.YtpkcdfgjcodidaaDoor
