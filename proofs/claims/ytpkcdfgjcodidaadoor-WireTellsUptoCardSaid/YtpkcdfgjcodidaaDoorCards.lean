/-
  DERIVED. GIVEN WITH THE SEED: THE CARDS: each row of YtpkcdfgjcodidaaDoorRows.lean that lists a variable, with what it lists TIED to the program's text (the seventh form; the later family's looks); each row that meets fmt, with fmt's text TOLD by the authors' own Lean function (tested against real Go, not proved from fmt's source: count such statements apart). THE CARD IS WHAT COUNTS. Prove the row's statement (the work); the ties are given (YtpkcdfgjcodidaaDoorTie.lean); close each card by the builder's one call (the guide's Derived/Test/ToyasCard.lean, 'card_holds'). Laid BY PROGRAM, IN A SANDBOX (cutbox-door.mjs). By AI agents, Wed Nov 11 2026. No macro, syntax, notation, axiom, sorry.
-/
import Derived.Test.YtpkcdfgjcodidaaDoorRows
import GoSem.ClaimSeven
namespace Go.Proofs.YtpkcdfgjcodidaaDoor
namespace Rows

/-- THE TIED CARD OF 'raillaw2.WireTells'. -/
def wireTellsCard : Claim7 := { stood := { row := wireTellsRow, standIns := [], harness := (true, "615e44f88cd606e6d74a1f46abaf09d84095adb833d5b5339a92a2c01c531167"), looks := true }, kinds := [], alts := [], laidByText := true, laidKinds := [.handle], laidTests := true, laidLooks := .later }
def WireTellsCardSaid : Prop := Claim7.holds Tryd.pinned (.plain (OpenSpec.ofChange wireTellsSpec)) wireTellsCard

/-- THE TIED CARD OF 'raillaw1.CubeTells'. -/
def cubeTellsCard : Claim7 := { stood := { row := cubeTellsRow, standIns := [], harness := (true, "615e44f88cd606e6d74a1f46abaf09d84095adb833d5b5339a92a2c01c531167"), looks := true }, kinds := [], alts := [], laidByText := true, laidKinds := [.handle], laidTests := true, laidLooks := .later }
def CubeTellsCardSaid : Prop := Claim7.holds Tryd.pinned (.plain (OpenSpec.ofChange cubeTellsSpec)) cubeTellsCard

/-- THE TIED CARD OF 'raillaw4.AgentElse'. -/
def agentElseCard : Claim7 := { stood := { row := agentElseRow, standIns := [], harness := (true, "615e44f88cd606e6d74a1f46abaf09d84095adb833d5b5339a92a2c01c531167"), looks := true }, kinds := [], alts := [], laidByText := true, laidKinds := [.handle], laidTests := true, laidLooks := .later }
def AgentElseCardSaid : Prop := Claim7.holds Tryd.pinned (.plain (OpenSpec.ofChange agentElseSpec)) agentElseCard

/-- THE TIED CARD OF 'raillaw1.CubesTells'. -/
def cubesTellsCard : Claim7 := { stood := { row := cubesTellsRow, standIns := [], harness := (true, "615e44f88cd606e6d74a1f46abaf09d84095adb833d5b5339a92a2c01c531167"), looks := true }, kinds := [], alts := [], laidByText := true, laidKinds := [.handle], laidTests := true, laidLooks := .later }
def CubesTellsCardSaid : Prop := Claim7.holds Tryd.pinned (.plain (OpenSpec.ofChange cubesTellsSpec)) cubesTellsCard

/-- THE TIED CARD OF 'raillaw1.TableTells'. -/
def tableTellsCard : Claim7 := { stood := { row := tableTellsRow, standIns := [], harness := (true, "615e44f88cd606e6d74a1f46abaf09d84095adb833d5b5339a92a2c01c531167"), looks := true }, kinds := [], alts := [], laidByText := true, laidKinds := [.handle], laidTests := true, laidLooks := .later }
def TableTellsCardSaid : Prop := Claim7.holds Tryd.pinned (.plain (OpenSpec.ofChange tableTellsSpec)) tableTellsCard

/-- THE TIED CARD OF 'raillaw2.AgentPlays'. -/
def agentPlaysCard : Claim7 := { stood := { row := agentPlaysRow, standIns := [], harness := (true, "615e44f88cd606e6d74a1f46abaf09d84095adb833d5b5339a92a2c01c531167"), looks := true }, kinds := [], alts := [], laidByText := true, laidKinds := [.handle], laidTests := true, laidLooks := .later }
def AgentPlaysCardSaid : Prop := Claim7.holds Tryd.pinned (.plain (OpenSpec.ofChange agentPlaysSpec)) agentPlaysCard

/-- THE SECOND FORM's CARD OF 'raillaw2.WireTells'. -/
def wireTellsUptoCard : Claim7 := { stood := { row := wireTellsUptoRow, standIns := [], harness := (true, "615e44f88cd606e6d74a1f46abaf09d84095adb833d5b5339a92a2c01c531167"), looks := true }, kinds := [], alts := [], laidByText := true, laidKinds := [.handle], laidTests := true, laidLooks := .later }
def WireTellsUptoCardSaid : Prop := Claim7.holds Tryd.pinned (.plain (OpenSpec.upto wireTellsSpec)) wireTellsUptoCard

/-- THE SECOND FORM's CARD OF 'raillaw1.CubeTells'. -/
def cubeTellsUptoCard : Claim7 := { stood := { row := cubeTellsUptoRow, standIns := [], harness := (true, "615e44f88cd606e6d74a1f46abaf09d84095adb833d5b5339a92a2c01c531167"), looks := true }, kinds := [], alts := [], laidByText := true, laidKinds := [.handle], laidTests := true, laidLooks := .later }
def CubeTellsUptoCardSaid : Prop := Claim7.holds Tryd.pinned (.plain (OpenSpec.upto cubeTellsSpec)) cubeTellsUptoCard

/-- THE SECOND FORM's CARD OF 'raillaw4.AgentElse'. -/
def agentElseUptoCard : Claim7 := { stood := { row := agentElseUptoRow, standIns := [], harness := (true, "615e44f88cd606e6d74a1f46abaf09d84095adb833d5b5339a92a2c01c531167"), looks := true }, kinds := [], alts := [], laidByText := true, laidKinds := [.handle], laidTests := true, laidLooks := .later }
def AgentElseUptoCardSaid : Prop := Claim7.holds Tryd.pinned (.plain (OpenSpec.upto agentElseSpec)) agentElseUptoCard

/-- THE SECOND FORM's CARD OF 'raillaw1.CubesTells'. -/
def cubesTellsUptoCard : Claim7 := { stood := { row := cubesTellsUptoRow, standIns := [], harness := (true, "615e44f88cd606e6d74a1f46abaf09d84095adb833d5b5339a92a2c01c531167"), looks := true }, kinds := [], alts := [], laidByText := true, laidKinds := [.handle], laidTests := true, laidLooks := .later }
def CubesTellsUptoCardSaid : Prop := Claim7.holds Tryd.pinned (.plain (OpenSpec.upto cubesTellsSpec)) cubesTellsUptoCard

/-- THE SECOND FORM's CARD OF 'raillaw1.TableTells'. -/
def tableTellsUptoCard : Claim7 := { stood := { row := tableTellsUptoRow, standIns := [], harness := (true, "615e44f88cd606e6d74a1f46abaf09d84095adb833d5b5339a92a2c01c531167"), looks := true }, kinds := [], alts := [], laidByText := true, laidKinds := [.handle], laidTests := true, laidLooks := .later }
def TableTellsUptoCardSaid : Prop := Claim7.holds Tryd.pinned (.plain (OpenSpec.upto tableTellsSpec)) tableTellsUptoCard

/-- THE SECOND FORM's CARD OF 'raillaw2.AgentPlays'. -/
def agentPlaysUptoCard : Claim7 := { stood := { row := agentPlaysUptoRow, standIns := [], harness := (true, "615e44f88cd606e6d74a1f46abaf09d84095adb833d5b5339a92a2c01c531167"), looks := true }, kinds := [], alts := [], laidByText := true, laidKinds := [.handle], laidTests := true, laidLooks := .later }
def AgentPlaysUptoCardSaid : Prop := Claim7.holds Tryd.pinned (.plain (OpenSpec.upto agentPlaysSpec)) agentPlaysUptoCard
end Rows
end Go.Proofs.YtpkcdfgjcodidaaDoor
