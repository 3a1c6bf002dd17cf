/- Arguments read as data: what shape the values have. -/
import Derived.Test.YtgkohnjpnnofhaaGreatPlain
import Derived.Test.YtgkohnjpnnofhaaGreatRows
import Derived.ProofKit
import Derived.OpenShut
import Derived.ShutString
import Derived.Below
import Derived.Deep.Slices
namespace Go.Proofs.YtgkohnjpnnofhaaGreat
set_option linter.unusedSimpArgs false
set_option linter.unusedVariables false
open Go.ChangeShapes Go.WideShapes Go.RowKit
open Go.ChangeMaps (open_string shut_string)
theorem own : ownKnob Tryz.prog.godebug = none := by kernel_rfl
theorem laidOut : laidOutB Tryz.prog = true := by kernel_rfl
def I64 (n : Int) : Prop := -9223372036854775808 ≤ n ∧ n ≤ 9223372036854775807
section
variable {H : Type} {enc : TypeId × Value → H} {w : World} {base : Nat} {spare : Nat → Bool} {held : Bool}
theorem fld {t : TypeId} {fs : Array Field} {fuel : Nat} {cs : List Value} {x : DataW H × List MemPlace} (hs : Tryz.prog.underlying t = some (.struct fs))
  (h : DataW.trod enc Tryz.prog w base spare held fuel t cs = some x) (i : Nat) (T off k : Nat) (hf : (fs[i]?).map (fun f => (f.type, f.offset)) = some (T, off)) (hk : Tryz.prog.cellsOf T = k) :
  ∃ n y, DataW.trod enc Tryz.prog w base spare held n T ((cs.drop off).take k) = some y := by
 obtain ⟨xs, n, -, -, -, hlen, hg⟩ := DataW.trod_struct hs h
 obtain ⟨f, hf1, hf2⟩ := oM_ hf
 simp only [Prod.mk.injEq] at hf2
 obtain ⟨rfl, rfl⟩ := hf2
 have hi : i < fs.size := (Array.getElem?_eq_some_iff.1 hf1).1
 have h1 := hg i f hf1
 rw [gE_ (by omega), hk] at h1
 exact ⟨n, _, h1⟩
end
end Go.Proofs.YtgkohnjpnnofhaaGreat
