/- A reader of Go code in plain values: a seat whose worlds need nothing. -/
import Derived.Test.YtgkohnjpnnofhaaGreatDenLib
import Derived.Test.YtgkohnjpnnofhaaGreatProg
namespace Go.Proofs.YtgkohnjpnnofhaaGreat.Den
open Go.RowKit
def DW : World → Prop := fun _ => True
theorem stb : ∀ w w', DW w → Below w.heap.size w w' → DW w' := fun _ _ _ _ => trivial
end Go.Proofs.YtgkohnjpnnofhaaGreat.Den
