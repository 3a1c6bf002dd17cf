/-
  DERIVED. GIVEN WITH THE SEED: THE CARDS: each row of YtgfleiknigjnbaaDoorRows.lean that lists a variable, with what it lists TIED to the program's text (the seventh form; the later family's looks); each row that meets fmt, with fmt's text TOLD by the authors' own Lean function (tested against real Go, not proved from fmt's source: count such statements apart). THE CARD IS WHAT COUNTS. Prove the row's statement (the work); the ties are given (YtgfleiknigjnbaaDoorTie.lean); close each card by the builder's one call (the guide's Derived/Test/ToyasCard.lean, 'card_holds'). Laid BY PROGRAM, IN A SANDBOX (cutbox-door.mjs). By AI agents, Wed Nov 11 2026. No macro, syntax, notation, axiom, sorry.
-/
import Derived.Test.YtgfleiknigjnbaaDoorRows
import GoSem.ClaimSeven
namespace Go.Proofs.YtgfleiknigjnbaaDoor
namespace Rows

/-- THE TIED CARD OF 'raillaw4.AgentElse'. -/
def agentElseCard : Claim7 := { stood := { row := agentElseRow, standIns := [], harness := (true, "da17fdbac99ec1bf19d91333c3a7e7062affc1d2970b06529a0e7ab44a5c1636"), looks := true }, kinds := [], alts := [], laidByText := true, laidKinds := [.handle], laidTests := true, laidLooks := .later }
def AgentElseCardSaid : Prop := Claim7.holds Tryd.pinned (.plain (OpenSpec.ofChange agentElseSpec)) agentElseCard

/-- THE TIED CARD OF 'raillaw2.AgentPlays'. -/
def agentPlaysCard : Claim7 := { stood := { row := agentPlaysRow, standIns := [], harness := (true, "da17fdbac99ec1bf19d91333c3a7e7062affc1d2970b06529a0e7ab44a5c1636"), looks := true }, kinds := [], alts := [], laidByText := true, laidKinds := [.handle], laidTests := true, laidLooks := .later }
def AgentPlaysCardSaid : Prop := Claim7.holds Tryd.pinned (.plain (OpenSpec.ofChange agentPlaysSpec)) agentPlaysCard

/-- THE TIED CARD OF 'raillaw2.AgentOnce'. -/
def agentOnceCard : Claim7 := { stood := { row := agentOnceRow, standIns := [], harness := (true, "da17fdbac99ec1bf19d91333c3a7e7062affc1d2970b06529a0e7ab44a5c1636"), looks := true }, kinds := [], alts := [], laidByText := true, laidKinds := [.handle], laidTests := true, laidLooks := .later }
def AgentOnceCardSaid : Prop := Claim7.holds Tryd.pinned (.plain (OpenSpec.ofChange agentOnceSpec)) agentOnceCard

/-- THE TIED CARD OF 'raillaw3.DriveSays'. -/
def driveSaysCard : Claim7 := { stood := { row := driveSaysRow, standIns := [], harness := (true, "da17fdbac99ec1bf19d91333c3a7e7062affc1d2970b06529a0e7ab44a5c1636"), looks := true }, kinds := [], alts := [], laidByText := true, laidKinds := [.handle], laidTests := true, laidLooks := .later }
def DriveSaysCardSaid : Prop := Claim7.holds Tryd.pinned (.plain (OpenSpec.ofChange driveSaysSpec)) driveSaysCard

/-- THE TIED CARD OF 'raillaw2.DrivePlays'. -/
def drivePlaysCard : Claim7 := { stood := { row := drivePlaysRow, standIns := [], harness := (true, "da17fdbac99ec1bf19d91333c3a7e7062affc1d2970b06529a0e7ab44a5c1636"), looks := true }, kinds := [], alts := [], laidByText := true, laidKinds := [.handle], laidTests := true, laidLooks := .later }
def DrivePlaysCardSaid : Prop := Claim7.holds Tryd.pinned (.plain (OpenSpec.ofChange drivePlaysSpec)) drivePlaysCard

/-- THE SECOND FORM's CARD OF 'raillaw4.AgentElse'. -/
def agentElseUptoCard : Claim7 := { stood := { row := agentElseUptoRow, standIns := [], harness := (true, "da17fdbac99ec1bf19d91333c3a7e7062affc1d2970b06529a0e7ab44a5c1636"), looks := true }, kinds := [], alts := [], laidByText := true, laidKinds := [.handle], laidTests := true, laidLooks := .later }
def AgentElseUptoCardSaid : Prop := Claim7.holds Tryd.pinned (.plain (OpenSpec.upto agentElseSpec)) agentElseUptoCard

/-- THE SECOND FORM's CARD OF 'raillaw2.AgentPlays'. -/
def agentPlaysUptoCard : Claim7 := { stood := { row := agentPlaysUptoRow, standIns := [], harness := (true, "da17fdbac99ec1bf19d91333c3a7e7062affc1d2970b06529a0e7ab44a5c1636"), looks := true }, kinds := [], alts := [], laidByText := true, laidKinds := [.handle], laidTests := true, laidLooks := .later }
def AgentPlaysUptoCardSaid : Prop := Claim7.holds Tryd.pinned (.plain (OpenSpec.upto agentPlaysSpec)) agentPlaysUptoCard

/-- THE SECOND FORM's CARD OF 'raillaw2.AgentOnce'. -/
def agentOnceUptoCard : Claim7 := { stood := { row := agentOnceUptoRow, standIns := [], harness := (true, "da17fdbac99ec1bf19d91333c3a7e7062affc1d2970b06529a0e7ab44a5c1636"), looks := true }, kinds := [], alts := [], laidByText := true, laidKinds := [.handle], laidTests := true, laidLooks := .later }
def AgentOnceUptoCardSaid : Prop := Claim7.holds Tryd.pinned (.plain (OpenSpec.upto agentOnceSpec)) agentOnceUptoCard

/-- THE SECOND FORM's CARD OF 'raillaw3.DriveSays'. -/
def driveSaysUptoCard : Claim7 := { stood := { row := driveSaysUptoRow, standIns := [], harness := (true, "da17fdbac99ec1bf19d91333c3a7e7062affc1d2970b06529a0e7ab44a5c1636"), looks := true }, kinds := [], alts := [], laidByText := true, laidKinds := [.handle], laidTests := true, laidLooks := .later }
def DriveSaysUptoCardSaid : Prop := Claim7.holds Tryd.pinned (.plain (OpenSpec.upto driveSaysSpec)) driveSaysUptoCard

/-- THE SECOND FORM's CARD OF 'raillaw2.DrivePlays'. -/
def drivePlaysUptoCard : Claim7 := { stood := { row := drivePlaysUptoRow, standIns := [], harness := (true, "da17fdbac99ec1bf19d91333c3a7e7062affc1d2970b06529a0e7ab44a5c1636"), looks := true }, kinds := [], alts := [], laidByText := true, laidKinds := [.handle], laidTests := true, laidLooks := .later }
def DrivePlaysUptoCardSaid : Prop := Claim7.holds Tryd.pinned (.plain (OpenSpec.upto drivePlaysSpec)) drivePlaysUptoCard
end Rows
end Go.Proofs.YtgfleiknigjnbaaDoor
