/-
  DERIVED. GIVEN WITH THE SEED: THE CARDS: each row of YtpjadjoekdcjiaaDoorRows.lean that lists a variable, with what it lists TIED to the program's text (the seventh form; the later family's looks); each row that meets fmt, with fmt's text TOLD by the authors' own Lean function (tested against real Go, not proved from fmt's source: count such statements apart). THE CARD IS WHAT COUNTS. Prove the row's statement (the work); the ties are given (YtpjadjoekdcjiaaDoorTie.lean); close each card by the builder's one call (the guide's Derived/Test/ToyasCard.lean, 'card_holds'). Laid BY PROGRAM, IN A SANDBOX (cutbox-door.mjs). By AI agents, Wed Nov 11 2026. No macro, syntax, notation, axiom, sorry.
-/
import Derived.Test.YtpjadjoekdcjiaaDoorRows
import GoSem.ClaimSeven
namespace Go.Proofs.YtpjadjoekdcjiaaDoor
namespace Rows

/-- THE TIED CARD OF 'raillaw1.ClassTells'. -/
def classTellsCard : Claim7 := { stood := { row := classTellsRow, standIns := [], harness := (true, "83930102c6ea334b3bd72f87b075b1ca3adc2c879e3980378b318fffc4c8d683"), looks := true }, kinds := [], alts := [], laidByText := true, laidKinds := [.handle], laidTests := true, laidLooks := .later }
def ClassTellsCardSaid : Prop := Claim7.holds Tryd.pinned (.plain (OpenSpec.ofChange classTellsSpec)) classTellsCard

/-- THE TIED CARD OF 'raillaw4.NetTurns'. -/
def netTurnsCard : Claim7 := { stood := { row := netTurnsRow, standIns := [], harness := (true, "83930102c6ea334b3bd72f87b075b1ca3adc2c879e3980378b318fffc4c8d683"), looks := true }, kinds := [], alts := [], laidByText := true, laidKinds := [.handle], laidTests := true, laidLooks := .later }
def NetTurnsCardSaid : Prop := Claim7.holds Tryd.pinned (.plain (OpenSpec.ofChange netTurnsSpec)) netTurnsCard

/-- THE TIED CARD OF 'raillaw1.NetTells'. -/
def netTellsCard : Claim7 := { stood := { row := netTellsRow, standIns := [], harness := (true, "83930102c6ea334b3bd72f87b075b1ca3adc2c879e3980378b318fffc4c8d683"), looks := true }, kinds := [], alts := [], laidByText := true, laidKinds := [.handle], laidTests := true, laidLooks := .later }
def NetTellsCardSaid : Prop := Claim7.holds Tryd.pinned (.plain (OpenSpec.ofChange netTellsSpec)) netTellsCard

/-- THE TIED CARD OF 'raillaw1.ChangeTells'. -/
def changeTellsCard : Claim7 := { stood := { row := changeTellsRow, standIns := [], harness := (true, "83930102c6ea334b3bd72f87b075b1ca3adc2c879e3980378b318fffc4c8d683"), looks := true }, kinds := [], alts := [], laidByText := true, laidKinds := [.handle], laidTests := true, laidLooks := .later }
def ChangeTellsCardSaid : Prop := Claim7.holds Tryd.pinned (.plain (OpenSpec.ofChange changeTellsSpec)) changeTellsCard

/-- THE TIED CARD OF 'raillaw2.AgentOnce'. -/
def agentOnceCard : Claim7 := { stood := { row := agentOnceRow, standIns := [], harness := (true, "83930102c6ea334b3bd72f87b075b1ca3adc2c879e3980378b318fffc4c8d683"), looks := true }, kinds := [], alts := [], laidByText := true, laidKinds := [.handle], laidTests := true, laidLooks := .later }
def AgentOnceCardSaid : Prop := Claim7.holds Tryd.pinned (.plain (OpenSpec.ofChange agentOnceSpec)) agentOnceCard

/-- THE TIED CARD OF 'raillaw3.LoadTells'. -/
def loadTellsCard : Claim7 := { stood := { row := loadTellsRow, standIns := [], harness := (true, "83930102c6ea334b3bd72f87b075b1ca3adc2c879e3980378b318fffc4c8d683"), looks := true }, kinds := [], alts := [], laidByText := true, laidKinds := [.handle], laidTests := true, laidLooks := .later }
def LoadTellsCardSaid : Prop := Claim7.holds Tryd.pinned (.plain (OpenSpec.ofChange loadTellsSpec)) loadTellsCard

/-- THE TIED CARD OF 'raillaw4.WishClash'. -/
def wishClashCard : Claim7 := { stood := { row := wishClashRow, standIns := [], harness := (true, "83930102c6ea334b3bd72f87b075b1ca3adc2c879e3980378b318fffc4c8d683"), looks := true }, kinds := [], alts := [], laidByText := true, laidKinds := [.handle], laidTests := true, laidLooks := .later }
def WishClashCardSaid : Prop := Claim7.holds Tryd.pinned (.plain (OpenSpec.ofChange wishClashSpec)) wishClashCard

/-- THE TIED CARD OF 'raillaw3.JudgeTells'. -/
def judgeTellsCard : Claim7 := { stood := { row := judgeTellsRow, standIns := [], harness := (true, "83930102c6ea334b3bd72f87b075b1ca3adc2c879e3980378b318fffc4c8d683"), looks := true }, kinds := [], alts := [], laidByText := true, laidKinds := [.handle], laidTests := true, laidLooks := .later }
def JudgeTellsCardSaid : Prop := Claim7.holds Tryd.pinned (.plain (OpenSpec.ofChange judgeTellsSpec)) judgeTellsCard

/-- THE TIED CARD OF 'raillaw1.WishProves'. -/
def wishProvesCard : Claim7 := { stood := { row := wishProvesRow, standIns := [], harness := (true, "83930102c6ea334b3bd72f87b075b1ca3adc2c879e3980378b318fffc4c8d683"), looks := true }, kinds := [], alts := [], laidByText := true, laidKinds := [.handle], laidTests := true, laidLooks := .later }
def WishProvesCardSaid : Prop := Claim7.holds Tryd.pinned (.plain (OpenSpec.ofChange wishProvesSpec)) wishProvesCard

/-- THE TIED CARD OF 'raillaw4.TextLines'. -/
def textLinesCard : Claim7 := { stood := { row := textLinesRow, standIns := [], harness := (true, "83930102c6ea334b3bd72f87b075b1ca3adc2c879e3980378b318fffc4c8d683"), looks := true }, kinds := [], alts := [], laidByText := true, laidKinds := [.data, .data, .data, .widerDeep], laidTests := true, laidLooks := .later }
def TextLinesCardSaid : Prop := Claim7.holds Tryd.pinned (.plain (OpenSpec.ofChange textLinesSpec)) textLinesCard

/-- THE SECOND FORM's CARD OF 'raillaw1.ClassTells'. -/
def classTellsUptoCard : Claim7 := { stood := { row := classTellsUptoRow, standIns := [], harness := (true, "83930102c6ea334b3bd72f87b075b1ca3adc2c879e3980378b318fffc4c8d683"), looks := true }, kinds := [], alts := [], laidByText := true, laidKinds := [.handle], laidTests := true, laidLooks := .later }
def ClassTellsUptoCardSaid : Prop := Claim7.holds Tryd.pinned (.plain (OpenSpec.upto classTellsSpec)) classTellsUptoCard

/-- THE SECOND FORM's CARD OF 'raillaw4.NetTurns'. -/
def netTurnsUptoCard : Claim7 := { stood := { row := netTurnsUptoRow, standIns := [], harness := (true, "83930102c6ea334b3bd72f87b075b1ca3adc2c879e3980378b318fffc4c8d683"), looks := true }, kinds := [], alts := [], laidByText := true, laidKinds := [.handle], laidTests := true, laidLooks := .later }
def NetTurnsUptoCardSaid : Prop := Claim7.holds Tryd.pinned (.plain (OpenSpec.upto netTurnsSpec)) netTurnsUptoCard

/-- THE SECOND FORM's CARD OF 'raillaw1.NetTells'. -/
def netTellsUptoCard : Claim7 := { stood := { row := netTellsUptoRow, standIns := [], harness := (true, "83930102c6ea334b3bd72f87b075b1ca3adc2c879e3980378b318fffc4c8d683"), looks := true }, kinds := [], alts := [], laidByText := true, laidKinds := [.handle], laidTests := true, laidLooks := .later }
def NetTellsUptoCardSaid : Prop := Claim7.holds Tryd.pinned (.plain (OpenSpec.upto netTellsSpec)) netTellsUptoCard

/-- THE SECOND FORM's CARD OF 'raillaw1.ChangeTells'. -/
def changeTellsUptoCard : Claim7 := { stood := { row := changeTellsUptoRow, standIns := [], harness := (true, "83930102c6ea334b3bd72f87b075b1ca3adc2c879e3980378b318fffc4c8d683"), looks := true }, kinds := [], alts := [], laidByText := true, laidKinds := [.handle], laidTests := true, laidLooks := .later }
def ChangeTellsUptoCardSaid : Prop := Claim7.holds Tryd.pinned (.plain (OpenSpec.upto changeTellsSpec)) changeTellsUptoCard

/-- THE SECOND FORM's CARD OF 'raillaw2.AgentOnce'. -/
def agentOnceUptoCard : Claim7 := { stood := { row := agentOnceUptoRow, standIns := [], harness := (true, "83930102c6ea334b3bd72f87b075b1ca3adc2c879e3980378b318fffc4c8d683"), looks := true }, kinds := [], alts := [], laidByText := true, laidKinds := [.handle], laidTests := true, laidLooks := .later }
def AgentOnceUptoCardSaid : Prop := Claim7.holds Tryd.pinned (.plain (OpenSpec.upto agentOnceSpec)) agentOnceUptoCard

/-- THE SECOND FORM's CARD OF 'raillaw3.LoadTells'. -/
def loadTellsUptoCard : Claim7 := { stood := { row := loadTellsUptoRow, standIns := [], harness := (true, "83930102c6ea334b3bd72f87b075b1ca3adc2c879e3980378b318fffc4c8d683"), looks := true }, kinds := [], alts := [], laidByText := true, laidKinds := [.handle], laidTests := true, laidLooks := .later }
def LoadTellsUptoCardSaid : Prop := Claim7.holds Tryd.pinned (.plain (OpenSpec.upto loadTellsSpec)) loadTellsUptoCard

/-- THE SECOND FORM's CARD OF 'raillaw4.WishClash'. -/
def wishClashUptoCard : Claim7 := { stood := { row := wishClashUptoRow, standIns := [], harness := (true, "83930102c6ea334b3bd72f87b075b1ca3adc2c879e3980378b318fffc4c8d683"), looks := true }, kinds := [], alts := [], laidByText := true, laidKinds := [.handle], laidTests := true, laidLooks := .later }
def WishClashUptoCardSaid : Prop := Claim7.holds Tryd.pinned (.plain (OpenSpec.upto wishClashSpec)) wishClashUptoCard

/-- THE SECOND FORM's CARD OF 'raillaw3.JudgeTells'. -/
def judgeTellsUptoCard : Claim7 := { stood := { row := judgeTellsUptoRow, standIns := [], harness := (true, "83930102c6ea334b3bd72f87b075b1ca3adc2c879e3980378b318fffc4c8d683"), looks := true }, kinds := [], alts := [], laidByText := true, laidKinds := [.handle], laidTests := true, laidLooks := .later }
def JudgeTellsUptoCardSaid : Prop := Claim7.holds Tryd.pinned (.plain (OpenSpec.upto judgeTellsSpec)) judgeTellsUptoCard

/-- THE SECOND FORM's CARD OF 'raillaw1.WishProves'. -/
def wishProvesUptoCard : Claim7 := { stood := { row := wishProvesUptoRow, standIns := [], harness := (true, "83930102c6ea334b3bd72f87b075b1ca3adc2c879e3980378b318fffc4c8d683"), looks := true }, kinds := [], alts := [], laidByText := true, laidKinds := [.handle], laidTests := true, laidLooks := .later }
def WishProvesUptoCardSaid : Prop := Claim7.holds Tryd.pinned (.plain (OpenSpec.upto wishProvesSpec)) wishProvesUptoCard

/-- THE SECOND FORM's CARD OF 'raillaw4.TextLines'. -/
def textLinesUptoCard : Claim7 := { stood := { row := textLinesUptoRow, standIns := [], harness := (true, "83930102c6ea334b3bd72f87b075b1ca3adc2c879e3980378b318fffc4c8d683"), looks := true }, kinds := [], alts := [], laidByText := true, laidKinds := [.data, .data, .data, .widerDeep], laidTests := true, laidLooks := .later }
def TextLinesUptoCardSaid : Prop := Claim7.holds Tryd.pinned (.plain (OpenSpec.upto textLinesSpec)) textLinesUptoCard
end Rows
end Go.Proofs.YtpjadjoekdcjiaaDoor
