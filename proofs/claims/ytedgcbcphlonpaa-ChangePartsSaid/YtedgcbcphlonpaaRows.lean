/-
  No cell of these rows narrows 'for every input' (looked for: loops, veiled, ifaces, maps, wideKeys, modest, calm, conditions, laid).
  DERIVED. THE GIVEN ROWS OF THIS SEAT. 10 by the template 'for every input the law returns true; each argument reads behind the call as it read before'; 0 by the template 'total and deterministic' (their statements: YtedgcbcphlonpaaTotals.lean).
  GIVEN WITH THE SEED: the statements are not yours to turn. If you find one false, say at which input.
  Laid BY PROGRAM, IN A SANDBOX (cutbox-rows.mjs): the forced cells as the released guide's own fill.sh prints them over the translation 28deaba6c1e61e01… (all of the seat's roots in one cut). By AI agents, Wed Nov 11 2026. No macro, syntax, notation, axiom, sorry.
-/
import Derived.Test.YtedgcbcphlonpaaChecked
import GoSem.Claim
import GoSem.ClaimJoined
import GoSem.ClaimMapViews
import Derived.JoinedTies
import Derived.KernelRfl
namespace Go.Proofs.Ytedgcbcphlonpaa
/- THE CELL 'sum', in the pinned program and in every row, IS THE sha256 OF THE DUMP (.gsa) THAT YtedgcbcphlonpaaProg.lean LOADS. Nothing in Lean hashes anything: it is a label: what it is worth is what the hold of that sum in a sandbox is worth. -/
noncomputable def Try.pinned : Pinned := { name := "ytedgcbcphlonpaa", sum := "28deaba6c1e61e019c9ae07f704bac158191d2543ba4970d3d3520b2e9ebf3a0", checked := Try.checked }
namespace Rows
def none {H : Type} : Left H := { results := [], args := [] }

/-- 'raillaw1.Names': WHATEVER THE INPUT: true; the input reads as it did. -/
def namesSpec : ChangeSpec := { name := "names", fn := fun _ => fun
  | [] => { results := [.lit (.bool true)], args := [] }
  | _ => none }
def namesRow : OpenClaim := { program := "ytedgcbcphlonpaa", sum := "28deaba6c1e61e019c9ae07f704bac158191d2543ba4970d3d3520b2e9ebf3a0", func := "railpoint/raillaw1.Names", spec := "names", plainKeys := false, apart := false }
def NamesSaid : Prop := namesRow.holds Try.pinned (OpenSpec.ofChange namesSpec)

/-- ITS FALSE NEIGHBOUR: 'it returns false'. Refute it at one input. -/
def namesWrong : ChangeSpec := { name := "names", fn := fun _ => fun
  | [] => { results := [.lit (.bool false)], args := [] }
  | _ => none }
def NamesWrongFalsely : Prop := namesRow.holds Try.pinned (OpenSpec.ofChange namesWrong)

/-- 'raillaw3.RuleTwice': WHATEVER THE INPUT: true; the input reads as it did. -/
def ruleTwiceSpec : ChangeSpec := { name := "ruleTwice", fn := fun _ => fun
  | [d1, d2] => { results := [.lit (.bool true)], args := [d1, d2] }
  | _ => none }
def ruleTwiceRow : OpenClaim := { program := "ytedgcbcphlonpaa", sum := "28deaba6c1e61e019c9ae07f704bac158191d2543ba4970d3d3520b2e9ebf3a0", func := "railpoint/raillaw3.RuleTwice", spec := "ruleTwice", plainKeys := false, apart := false }
def RuleTwiceSaid : Prop := ruleTwiceRow.holds Try.pinned (OpenSpec.ofChange ruleTwiceSpec)

/-- ITS FALSE NEIGHBOUR: 'it returns false'. Refute it at one input. -/
def ruleTwiceWrong : ChangeSpec := { name := "ruleTwice", fn := fun _ => fun
  | [d1, d2] => { results := [.lit (.bool false)], args := [d1, d2] }
  | _ => none }
def RuleTwiceWrongFalsely : Prop := ruleTwiceRow.holds Try.pinned (OpenSpec.ofChange ruleTwiceWrong)

/-- 'raillaw4.CubeHalves': WHATEVER THE INPUT: true; the input reads as it did. -/
def cubeHalvesSpec : ChangeSpec := { name := "cubeHalves", fn := fun _ => fun
  | [d1, d2] => { results := [.lit (.bool true)], args := [d1, d2] }
  | _ => none }
def cubeHalvesRow : OpenClaim := { program := "ytedgcbcphlonpaa", sum := "28deaba6c1e61e019c9ae07f704bac158191d2543ba4970d3d3520b2e9ebf3a0", func := "railpoint/raillaw4.CubeHalves", spec := "cubeHalves", plainKeys := false, apart := false }
def CubeHalvesSaid : Prop := cubeHalvesRow.holds Try.pinned (OpenSpec.ofChange cubeHalvesSpec)

/-- ITS FALSE NEIGHBOUR: 'it returns false'. Refute it at one input. -/
def cubeHalvesWrong : ChangeSpec := { name := "cubeHalves", fn := fun _ => fun
  | [d1, d2] => { results := [.lit (.bool false)], args := [d1, d2] }
  | _ => none }
def CubeHalvesWrongFalsely : Prop := cubeHalvesRow.holds Try.pinned (OpenSpec.ofChange cubeHalvesWrong)

/-- 'raillaw1.CubeBack': WHATEVER THE INPUT: true; the input reads as it did. -/
def cubeBackSpec : ChangeSpec := { name := "cubeBack", fn := fun _ => fun
  | [d1, d2, d3] => { results := [.lit (.bool true)], args := [d1, d2, d3] }
  | _ => none }
def cubeBackRow : OpenClaim := { program := "ytedgcbcphlonpaa", sum := "28deaba6c1e61e019c9ae07f704bac158191d2543ba4970d3d3520b2e9ebf3a0", func := "railpoint/raillaw1.CubeBack", spec := "cubeBack", plainKeys := false, apart := false }
def CubeBackSaid : Prop := cubeBackRow.holds Try.pinned (OpenSpec.ofChange cubeBackSpec)

/-- ITS FALSE NEIGHBOUR: 'it returns false'. Refute it at one input. -/
def cubeBackWrong : ChangeSpec := { name := "cubeBack", fn := fun _ => fun
  | [d1, d2, d3] => { results := [.lit (.bool false)], args := [d1, d2, d3] }
  | _ => none }
def CubeBackWrongFalsely : Prop := cubeBackRow.holds Try.pinned (OpenSpec.ofChange cubeBackWrong)

/-- 'raillaw2.WireBack': WHATEVER THE INPUT: true; the input reads as it did. -/
def wireBackSpec : ChangeSpec := { name := "wireBack", fn := fun _ => fun
  | [d1, d2, d3, d4] => { results := [.lit (.bool true)], args := [d1, d2, d3, d4] }
  | _ => none }
def wireBackRow : OpenClaim := { program := "ytedgcbcphlonpaa", sum := "28deaba6c1e61e019c9ae07f704bac158191d2543ba4970d3d3520b2e9ebf3a0", func := "railpoint/raillaw2.WireBack", spec := "wireBack", unfollowed := true, recurses := true, plainKeys := false, apart := false }
def WireBackSaid : Prop := wireBackRow.holds Try.pinned (OpenSpec.ofChange wireBackSpec)

/-- ITS FALSE NEIGHBOUR: 'it returns false'. Refute it at one input. -/
def wireBackWrong : ChangeSpec := { name := "wireBack", fn := fun _ => fun
  | [d1, d2, d3, d4] => { results := [.lit (.bool false)], args := [d1, d2, d3, d4] }
  | _ => none }
def WireBackWrongFalsely : Prop := wireBackRow.holds Try.pinned (OpenSpec.ofChange wireBackWrong)

/-- 'raillaw3.CubesLess': WHATEVER THE INPUT: true; the input reads as it did. -/
def cubesLessSpec : ChangeSpec := { name := "cubesLess", fn := fun _ => fun
  | [d1, d2] => { results := [.lit (.bool true)], args := [d1, d2] }
  | _ => none }
def cubesLessRow : OpenClaim := { program := "ytedgcbcphlonpaa", sum := "28deaba6c1e61e019c9ae07f704bac158191d2543ba4970d3d3520b2e9ebf3a0", func := "railpoint/raillaw3.CubesLess", spec := "cubesLess", unfollowed := true, recurses := true, plainKeys := false, apart := false }
def CubesLessSaid : Prop := cubesLessRow.holds Try.pinned (OpenSpec.ofChange cubesLessSpec)

/-- ITS FALSE NEIGHBOUR: 'it returns false'. Refute it at one input. -/
def cubesLessWrong : ChangeSpec := { name := "cubesLess", fn := fun _ => fun
  | [d1, d2] => { results := [.lit (.bool false)], args := [d1, d2] }
  | _ => none }
def CubesLessWrongFalsely : Prop := cubesLessRow.holds Try.pinned (OpenSpec.ofChange cubesLessWrong)

/-- 'raillaw4.ClassSplits': WHATEVER THE INPUT: true; the input reads as it did. -/
def classSplitsSpec : ChangeSpec := { name := "classSplits", fn := fun _ => fun
  | [d1, d2] => { results := [.lit (.bool true)], args := [d1, d2] }
  | _ => none }
def classSplitsRow : OpenClaim := { program := "ytedgcbcphlonpaa", sum := "28deaba6c1e61e019c9ae07f704bac158191d2543ba4970d3d3520b2e9ebf3a0", func := "railpoint/raillaw4.ClassSplits", spec := "classSplits", unfollowed := true, recurses := true, plainKeys := false, apart := false }
def ClassSplitsSaid : Prop := classSplitsRow.holds Try.pinned (OpenSpec.ofChange classSplitsSpec)

/-- ITS FALSE NEIGHBOUR: 'it returns false'. Refute it at one input. -/
def classSplitsWrong : ChangeSpec := { name := "classSplits", fn := fun _ => fun
  | [d1, d2] => { results := [.lit (.bool false)], args := [d1, d2] }
  | _ => none }
def ClassSplitsWrongFalsely : Prop := classSplitsRow.holds Try.pinned (OpenSpec.ofChange classSplitsWrong)

/-- 'raillaw1.TableBack': WHATEVER THE INPUT: true; the input reads as it did. -/
def tableBackSpec : ChangeSpec := { name := "tableBack", fn := fun _ => fun
  | [d1, d2, d3] => { results := [.lit (.bool true)], args := [d1, d2, d3] }
  | _ => none }
def tableBackRow : OpenClaim := { program := "ytedgcbcphlonpaa", sum := "28deaba6c1e61e019c9ae07f704bac158191d2543ba4970d3d3520b2e9ebf3a0", func := "railpoint/raillaw1.TableBack", spec := "tableBack", unfollowed := true, recurses := true, plainKeys := false, apart := false }
def TableBackSaid : Prop := tableBackRow.holds Try.pinned (OpenSpec.ofChange tableBackSpec)

/-- ITS FALSE NEIGHBOUR: 'it returns false'. Refute it at one input. -/
def tableBackWrong : ChangeSpec := { name := "tableBack", fn := fun _ => fun
  | [d1, d2, d3] => { results := [.lit (.bool false)], args := [d1, d2, d3] }
  | _ => none }
def TableBackWrongFalsely : Prop := tableBackRow.holds Try.pinned (OpenSpec.ofChange tableBackWrong)

/-- 'raillaw4.ChangeParts': WHATEVER THE INPUT: true; the input reads as it did. -/
def changePartsSpec : ChangeSpec := { name := "changeParts", fn := fun _ => fun
  | [d1, d2, d3] => { results := [.lit (.bool true)], args := [d1, d2, d3] }
  | _ => none }
def changePartsRow : OpenClaim := { program := "ytedgcbcphlonpaa", sum := "28deaba6c1e61e019c9ae07f704bac158191d2543ba4970d3d3520b2e9ebf3a0", func := "railpoint/raillaw4.ChangeParts", spec := "changeParts", unfollowed := true, recurses := true, plainKeys := false, apart := false }
def ChangePartsSaid : Prop := changePartsRow.holds Try.pinned (OpenSpec.ofChange changePartsSpec)

/-- ITS FALSE NEIGHBOUR: 'it returns false'. Refute it at one input. -/
def changePartsWrong : ChangeSpec := { name := "changeParts", fn := fun _ => fun
  | [d1, d2, d3] => { results := [.lit (.bool false)], args := [d1, d2, d3] }
  | _ => none }
def ChangePartsWrongFalsely : Prop := changePartsRow.holds Try.pinned (OpenSpec.ofChange changePartsWrong)

/-- 'raillaw1.ClassHolds': WHATEVER THE INPUT: true; the input reads as it did. -/
def classHoldsSpec : ChangeSpec := { name := "classHolds", fn := fun _ => fun
  | [d1, d2, d3] => { results := [.lit (.bool true)], args := [d1, d2, d3] }
  | _ => none }
def classHoldsRow : OpenClaim := { program := "ytedgcbcphlonpaa", sum := "28deaba6c1e61e019c9ae07f704bac158191d2543ba4970d3d3520b2e9ebf3a0", func := "railpoint/raillaw1.ClassHolds", spec := "classHolds", unfollowed := true, recurses := true, plainKeys := false, apart := false }
def ClassHoldsSaid : Prop := classHoldsRow.holds Try.pinned (OpenSpec.ofChange classHoldsSpec)

/-- ITS FALSE NEIGHBOUR: 'it returns false'. Refute it at one input. -/
def classHoldsWrong : ChangeSpec := { name := "classHolds", fn := fun _ => fun
  | [d1, d2, d3] => { results := [.lit (.bool false)], args := [d1, d2, d3] }
  | _ => none }
def ClassHoldsWrongFalsely : Prop := classHoldsRow.holds Try.pinned (OpenSpec.ofChange classHoldsWrong)

/- THE SECOND FORM. 'bulk': how many values and letters a reading holds, each counted each time it is reached (what is shared counts as often as it is met; a slice's spare places count too). A statement '..UptoSaid' is the law's where the arguments, and the package variables that the reading takes, are together of bulk at most 1048576: NARROWER than '..Said'. Prove '..Said' where nothing that the law and all that it calls make is longer than what came in: it says more and counts as full. Else prove '..UptoSaid'. A law counts once. -/
mutual
def uptoBulk {H : Type} : DataW H → Nat
  | .lit (.string bytes) => bytes.length + 1
  | .lit _ => 1
  | .nil => 1
  | .ptr d => uptoBulk d + 1
  | .slice elems spare => uptoBulkAll elems + uptoBulkAll spare + 1
  | .agg parts => uptoBulkAll parts + 1
  | .iface _ d => uptoBulk d + 1
  | .map entries => uptoBulkEntries entries + 1
  | .held _ => 1
def uptoBulkAll {H : Type} : List (DataW H) → Nat
  | [] => 0
  | d :: r => uptoBulk d + uptoBulkAll r
def uptoBulkEntries {H : Type} : List (Lit × DataW H) → Nat
  | [] => 0
  | x :: r => uptoBulkEntry x + uptoBulkEntries r
def uptoBulkEntry {H : Type} : Lit × DataW H → Nat
  | (.string bytes, d) => bytes.length + uptoBulk d + 1
  | (_, d) => uptoBulk d + 1
 end
def uptoSmall : (H : Type) → List (DataW H) → Bool := fun _ ds => decide (uptoBulkAll ds ≤ 1048576)
def OpenSpec.upto (s : _root_.Go.ChangeSpec) : _root_.Go.OpenSpec := { _root_.Go.OpenSpec.ofChange s with cond := some uptoSmall }

/-- 'raillaw1.Names', WHERE WHAT IT READS IS OF BULK AT MOST 1048576: true; the input reads as it did. -/
def namesUptoRow : OpenClaim := { program := "ytedgcbcphlonpaa", sum := "28deaba6c1e61e019c9ae07f704bac158191d2543ba4970d3d3520b2e9ebf3a0", func := "railpoint/raillaw1.Names", spec := "names", plainKeys := false, apart := false, narrowed := true }
def NamesUptoSaid : Prop := namesUptoRow.holds Try.pinned (OpenSpec.upto namesSpec)

/-- 'raillaw3.RuleTwice', WHERE WHAT IT READS IS OF BULK AT MOST 1048576: true; the input reads as it did. -/
def ruleTwiceUptoRow : OpenClaim := { program := "ytedgcbcphlonpaa", sum := "28deaba6c1e61e019c9ae07f704bac158191d2543ba4970d3d3520b2e9ebf3a0", func := "railpoint/raillaw3.RuleTwice", spec := "ruleTwice", plainKeys := false, apart := false, narrowed := true }
def RuleTwiceUptoSaid : Prop := ruleTwiceUptoRow.holds Try.pinned (OpenSpec.upto ruleTwiceSpec)

/-- 'raillaw4.CubeHalves', WHERE WHAT IT READS IS OF BULK AT MOST 1048576: true; the input reads as it did. -/
def cubeHalvesUptoRow : OpenClaim := { program := "ytedgcbcphlonpaa", sum := "28deaba6c1e61e019c9ae07f704bac158191d2543ba4970d3d3520b2e9ebf3a0", func := "railpoint/raillaw4.CubeHalves", spec := "cubeHalves", plainKeys := false, apart := false, narrowed := true }
def CubeHalvesUptoSaid : Prop := cubeHalvesUptoRow.holds Try.pinned (OpenSpec.upto cubeHalvesSpec)

/-- 'raillaw1.CubeBack', WHERE WHAT IT READS IS OF BULK AT MOST 1048576: true; the input reads as it did. -/
def cubeBackUptoRow : OpenClaim := { program := "ytedgcbcphlonpaa", sum := "28deaba6c1e61e019c9ae07f704bac158191d2543ba4970d3d3520b2e9ebf3a0", func := "railpoint/raillaw1.CubeBack", spec := "cubeBack", plainKeys := false, apart := false, narrowed := true }
def CubeBackUptoSaid : Prop := cubeBackUptoRow.holds Try.pinned (OpenSpec.upto cubeBackSpec)

/-- 'raillaw2.WireBack', WHERE WHAT IT READS IS OF BULK AT MOST 1048576: true; the input reads as it did. -/
def wireBackUptoRow : OpenClaim := { program := "ytedgcbcphlonpaa", sum := "28deaba6c1e61e019c9ae07f704bac158191d2543ba4970d3d3520b2e9ebf3a0", func := "railpoint/raillaw2.WireBack", spec := "wireBack", unfollowed := true, recurses := true, plainKeys := false, apart := false, narrowed := true }
def WireBackUptoSaid : Prop := wireBackUptoRow.holds Try.pinned (OpenSpec.upto wireBackSpec)

/-- 'raillaw3.CubesLess', WHERE WHAT IT READS IS OF BULK AT MOST 1048576: true; the input reads as it did. -/
def cubesLessUptoRow : OpenClaim := { program := "ytedgcbcphlonpaa", sum := "28deaba6c1e61e019c9ae07f704bac158191d2543ba4970d3d3520b2e9ebf3a0", func := "railpoint/raillaw3.CubesLess", spec := "cubesLess", unfollowed := true, recurses := true, plainKeys := false, apart := false, narrowed := true }
def CubesLessUptoSaid : Prop := cubesLessUptoRow.holds Try.pinned (OpenSpec.upto cubesLessSpec)

/-- 'raillaw4.ClassSplits', WHERE WHAT IT READS IS OF BULK AT MOST 1048576: true; the input reads as it did. -/
def classSplitsUptoRow : OpenClaim := { program := "ytedgcbcphlonpaa", sum := "28deaba6c1e61e019c9ae07f704bac158191d2543ba4970d3d3520b2e9ebf3a0", func := "railpoint/raillaw4.ClassSplits", spec := "classSplits", unfollowed := true, recurses := true, plainKeys := false, apart := false, narrowed := true }
def ClassSplitsUptoSaid : Prop := classSplitsUptoRow.holds Try.pinned (OpenSpec.upto classSplitsSpec)

/-- 'raillaw1.TableBack', WHERE WHAT IT READS IS OF BULK AT MOST 1048576: true; the input reads as it did. -/
def tableBackUptoRow : OpenClaim := { program := "ytedgcbcphlonpaa", sum := "28deaba6c1e61e019c9ae07f704bac158191d2543ba4970d3d3520b2e9ebf3a0", func := "railpoint/raillaw1.TableBack", spec := "tableBack", unfollowed := true, recurses := true, plainKeys := false, apart := false, narrowed := true }
def TableBackUptoSaid : Prop := tableBackUptoRow.holds Try.pinned (OpenSpec.upto tableBackSpec)

/-- 'raillaw4.ChangeParts', WHERE WHAT IT READS IS OF BULK AT MOST 1048576: true; the input reads as it did. -/
def changePartsUptoRow : OpenClaim := { program := "ytedgcbcphlonpaa", sum := "28deaba6c1e61e019c9ae07f704bac158191d2543ba4970d3d3520b2e9ebf3a0", func := "railpoint/raillaw4.ChangeParts", spec := "changeParts", unfollowed := true, recurses := true, plainKeys := false, apart := false, narrowed := true }
def ChangePartsUptoSaid : Prop := changePartsUptoRow.holds Try.pinned (OpenSpec.upto changePartsSpec)

/-- 'raillaw1.ClassHolds', WHERE WHAT IT READS IS OF BULK AT MOST 1048576: true; the input reads as it did. -/
def classHoldsUptoRow : OpenClaim := { program := "ytedgcbcphlonpaa", sum := "28deaba6c1e61e019c9ae07f704bac158191d2543ba4970d3d3520b2e9ebf3a0", func := "railpoint/raillaw1.ClassHolds", spec := "classHolds", unfollowed := true, recurses := true, plainKeys := false, apart := false, narrowed := true }
def ClassHoldsUptoSaid : Prop := classHoldsUptoRow.holds Try.pinned (OpenSpec.upto classHoldsSpec)

end Rows
end Go.Proofs.Ytedgcbcphlonpaa
