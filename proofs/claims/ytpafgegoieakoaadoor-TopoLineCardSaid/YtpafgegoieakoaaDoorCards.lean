/-
  DERIVED. GIVEN WITH THE SEED: THE CARDS: each row of YtpafgegoieakoaaDoorRows.lean that lists a variable, with what it lists TIED to the program's text (the seventh form; the later family's looks); each row that meets fmt, with fmt's text TOLD by the authors' own Lean function (tested against real Go, not proved from fmt's source: count such statements apart). THE CARD IS WHAT COUNTS. Prove the row's statement (the work); the ties are given (YtpafgegoieakoaaDoorTie.lean); close each card by the builder's one call (the guide's Derived/Test/ToyasCard.lean, 'card_holds'). Laid BY PROGRAM, IN A SANDBOX (cutbox-door.mjs). By AI agents, Wed Nov 11 2026. No macro, syntax, notation, axiom, sorry.
-/
import Derived.Test.YtpafgegoieakoaaDoorRows
import GoSem.ClaimSeven
namespace Go.Proofs.YtpafgegoieakoaaDoor
namespace Rows

/-- THE TIED CARD OF 'raillaw4.TopoLine'. -/
def topoLineCard : Claim7 := { stood := { row := topoLineRow, standIns := [], harness := (true, "aa029761faad55c89bd4b0659cf4208f8d7a47f25fa00f7d3c2ce76f0f31c87e"), looks := true }, kinds := [], alts := [], laidByText := true, laidKinds := [.handle], laidTests := true, laidLooks := .later }
def TopoLineCardSaid : Prop := Claim7.holds Tryd.pinned (.plain (OpenSpec.ofChange topoLineSpec)) topoLineCard

/-- THE TIED CARD OF 'raillaw1.TopoTells'. -/
def topoTellsCard : Claim7 := { stood := { row := topoTellsRow, standIns := [], harness := (true, "aa029761faad55c89bd4b0659cf4208f8d7a47f25fa00f7d3c2ce76f0f31c87e"), looks := true }, kinds := [], alts := [], laidByText := true, laidKinds := [.handle], laidTests := true, laidLooks := .later }
def TopoTellsCardSaid : Prop := Claim7.holds Tryd.pinned (.plain (OpenSpec.ofChange topoTellsSpec)) topoTellsCard

/-- THE TIED CARD OF 'raillaw3.BaseTells'. -/
def baseTellsCard : Claim7 := { stood := { row := baseTellsRow, standIns := [], harness := (true, "aa029761faad55c89bd4b0659cf4208f8d7a47f25fa00f7d3c2ce76f0f31c87e"), looks := true }, kinds := [], alts := [], laidByText := true, laidKinds := [.handle], laidTests := true, laidLooks := .later }
def BaseTellsCardSaid : Prop := Claim7.holds Tryd.pinned (.plain (OpenSpec.ofChange baseTellsSpec)) baseTellsCard

/-- THE SECOND FORM's CARD OF 'raillaw4.TopoLine'. -/
def topoLineUptoCard : Claim7 := { stood := { row := topoLineUptoRow, standIns := [], harness := (true, "aa029761faad55c89bd4b0659cf4208f8d7a47f25fa00f7d3c2ce76f0f31c87e"), looks := true }, kinds := [], alts := [], laidByText := true, laidKinds := [.handle], laidTests := true, laidLooks := .later }
def TopoLineUptoCardSaid : Prop := Claim7.holds Tryd.pinned (.plain (OpenSpec.upto topoLineSpec)) topoLineUptoCard

/-- THE SECOND FORM's CARD OF 'raillaw1.TopoTells'. -/
def topoTellsUptoCard : Claim7 := { stood := { row := topoTellsUptoRow, standIns := [], harness := (true, "aa029761faad55c89bd4b0659cf4208f8d7a47f25fa00f7d3c2ce76f0f31c87e"), looks := true }, kinds := [], alts := [], laidByText := true, laidKinds := [.handle], laidTests := true, laidLooks := .later }
def TopoTellsUptoCardSaid : Prop := Claim7.holds Tryd.pinned (.plain (OpenSpec.upto topoTellsSpec)) topoTellsUptoCard

/-- THE SECOND FORM's CARD OF 'raillaw3.BaseTells'. -/
def baseTellsUptoCard : Claim7 := { stood := { row := baseTellsUptoRow, standIns := [], harness := (true, "aa029761faad55c89bd4b0659cf4208f8d7a47f25fa00f7d3c2ce76f0f31c87e"), looks := true }, kinds := [], alts := [], laidByText := true, laidKinds := [.handle], laidTests := true, laidLooks := .later }
def BaseTellsUptoCardSaid : Prop := Claim7.holds Tryd.pinned (.plain (OpenSpec.upto baseTellsSpec)) baseTellsUptoCard
end Rows
end Go.Proofs.YtpafgegoieakoaaDoor
