/-
  DERIVED. GIVEN WITH THE SEED: THE CARDS: each row of YtilbgbhpdjjliaaGreatDoorRows.lean that lists a variable, with what it lists TIED to the program's text (the seventh form; the later family's looks); each row that meets fmt, with fmt's text TOLD by the authors' own Lean function (tested against real Go, not proved from fmt's source: count such statements apart). THE CARD IS WHAT COUNTS. Prove the row's statement (the work); the ties are given (YtilbgbhpdjjliaaGreatDoorTie.lean); close each card by the builder's one call (the guide's Derived/Test/ToyasCard.lean, 'card_holds'). Laid BY PROGRAM, IN A SANDBOX (cutbox-door.mjs). By AI agents, Wed Nov 11 2026. No macro, syntax, notation, axiom, sorry.
-/
import Derived.Test.YtilbgbhpdjjliaaGreatDoorRows
import GoSem.ClaimSeven
namespace Go.Proofs.YtilbgbhpdjjliaaGreatDoor
namespace Rows

/-- THE TIED CARD OF 'raillaw1.RuleTells'. -/
def ruleTellsCard : Claim7 := { stood := { row := ruleTellsRow, standIns := [], harness := (true, "09717b64ea967fc9f1dada33cbedbe3332ffde6c45f6551938bf4331de47bf3f"), looks := true }, kinds := [], alts := [], laidByText := true, laidKinds := [.data, .data, .data, .data, .handle, .sentinel, .sentinel, .pinned], laidTests := true, laidLooks := .later }
def RuleTellsCardSaid : Prop := Claim7.holds Tryz.pinned (.plain (OpenSpec.ofChange ruleTellsSpec)) ruleTellsCard

/-- THE TIED CARD OF 'raillaw1.WishTells'. -/
def wishTellsCard : Claim7 := { stood := { row := wishTellsRow, standIns := [], harness := (true, "09717b64ea967fc9f1dada33cbedbe3332ffde6c45f6551938bf4331de47bf3f"), looks := true }, kinds := [], alts := [], laidByText := true, laidKinds := [.data, .data, .data, .data, .handle, .sentinel, .sentinel, .widerDeep, .pinned], laidTests := true, laidLooks := .later }
def WishTellsCardSaid : Prop := Claim7.holds Tryz.pinned (.plain (OpenSpec.ofChange wishTellsSpec)) wishTellsCard

/-- THE SECOND FORM's CARD OF 'raillaw1.RuleTells'. -/
def ruleTellsUptoCard : Claim7 := { stood := { row := ruleTellsUptoRow, standIns := [], harness := (true, "09717b64ea967fc9f1dada33cbedbe3332ffde6c45f6551938bf4331de47bf3f"), looks := true }, kinds := [], alts := [], laidByText := true, laidKinds := [.data, .data, .data, .data, .handle, .sentinel, .sentinel, .pinned], laidTests := true, laidLooks := .later }
def RuleTellsUptoCardSaid : Prop := Claim7.holds Tryz.pinned (.plain (OpenSpec.upto ruleTellsSpec)) ruleTellsUptoCard

/-- THE SECOND FORM's CARD OF 'raillaw1.WishTells'. -/
def wishTellsUptoCard : Claim7 := { stood := { row := wishTellsUptoRow, standIns := [], harness := (true, "09717b64ea967fc9f1dada33cbedbe3332ffde6c45f6551938bf4331de47bf3f"), looks := true }, kinds := [], alts := [], laidByText := true, laidKinds := [.data, .data, .data, .data, .handle, .sentinel, .sentinel, .widerDeep, .pinned], laidTests := true, laidLooks := .later }
def WishTellsUptoCardSaid : Prop := Claim7.holds Tryz.pinned (.plain (OpenSpec.upto wishTellsSpec)) wishTellsUptoCard
end Rows
end Go.Proofs.YtilbgbhpdjjliaaGreatDoor
