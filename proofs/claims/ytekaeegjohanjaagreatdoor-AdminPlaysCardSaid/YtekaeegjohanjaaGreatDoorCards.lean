/-
  DERIVED. GIVEN WITH THE SEED: THE CARDS: each row of YtekaeegjohanjaaGreatDoorRows.lean that lists a variable, with what it lists TIED to the program's text (the seventh form; the later family's looks); each row that meets fmt, with fmt's text TOLD by the authors' own Lean function (tested against real Go, not proved from fmt's source: count such statements apart). THE CARD IS WHAT COUNTS. Prove the row's statement (the work); the ties are given (YtekaeegjohanjaaGreatDoorTie.lean); close each card by the builder's one call (the guide's Derived/Test/ToyasCard.lean, 'card_holds'). Laid BY PROGRAM, IN A SANDBOX (cutbox-door.mjs). By AI agents, Wed Nov 11 2026. No macro, syntax, notation, axiom, sorry.
-/
import Derived.Test.YtekaeegjohanjaaGreatDoorRows
import GoSem.ClaimSeven
namespace Go.Proofs.YtekaeegjohanjaaGreatDoor
namespace Rows

/-- THE TIED CARD OF 'skylarklaw18.AdminPlays'. -/
def adminPlaysCard : Claim7 := { stood := { row := adminPlaysRow, standIns := [], harness := (true, "ada25f520ec721dee26733a7eee3f2570ad444f075e16f88e2fb6c03da1d1d84"), looks := false }, kinds := [], alts := [], laidByText := true, laidKinds := [.data, .data, .data], laidTests := true, laidLooks := .later }
def AdminPlaysCardSaid : Prop := Claim7.holds Tryz.pinned (.plain (OpenSpec.ofChange adminPlaysSpec)) adminPlaysCard

/-- THE TIED CARD OF 'skylarklaw22.MoveKeeps'. -/
def moveKeepsCard : Claim7 := { stood := { row := moveKeepsRow, standIns := [], harness := (true, "ada25f520ec721dee26733a7eee3f2570ad444f075e16f88e2fb6c03da1d1d84"), looks := false }, kinds := [], alts := [], laidByText := true, laidKinds := [.data, .data, .data], laidTests := true, laidLooks := .later }
def MoveKeepsCardSaid : Prop := Claim7.holds Tryz.pinned (.plain (OpenSpec.ofChange moveKeepsSpec)) moveKeepsCard

/-- THE TIED CARD OF 'skylarklaw22.MovePlays'. -/
def movePlaysCard : Claim7 := { stood := { row := movePlaysRow, standIns := [], harness := (true, "ada25f520ec721dee26733a7eee3f2570ad444f075e16f88e2fb6c03da1d1d84"), looks := false }, kinds := [], alts := [], laidByText := true, laidKinds := [.data, .data, .data], laidTests := true, laidLooks := .later }
def MovePlaysCardSaid : Prop := Claim7.holds Tryz.pinned (.plain (OpenSpec.ofChange movePlaysSpec)) movePlaysCard

/-- THE TIED CARD OF 'skylarklaw22.MoveRefuses'. -/
def moveRefusesCard : Claim7 := { stood := { row := moveRefusesRow, standIns := [], harness := (true, "ada25f520ec721dee26733a7eee3f2570ad444f075e16f88e2fb6c03da1d1d84"), looks := false }, kinds := [], alts := [], laidByText := true, laidKinds := [.data, .data, .data], laidTests := true, laidLooks := .later }
def MoveRefusesCardSaid : Prop := Claim7.holds Tryz.pinned (.plain (OpenSpec.ofChange moveRefusesSpec)) moveRefusesCard

/-- THE TIED CARD OF 'skylarklaw22.MoveAnswers'. -/
def moveAnswersCard : Claim7 := { stood := { row := moveAnswersRow, standIns := [], harness := (true, "ada25f520ec721dee26733a7eee3f2570ad444f075e16f88e2fb6c03da1d1d84"), looks := false }, kinds := [], alts := [], laidByText := true, laidKinds := [.data, .data, .data], laidTests := true, laidLooks := .later }
def MoveAnswersCardSaid : Prop := Claim7.holds Tryz.pinned (.plain (OpenSpec.ofChange moveAnswersSpec)) moveAnswersCard

/-- THE SECOND FORM's CARD OF 'skylarklaw18.AdminPlays'. -/
def adminPlaysUptoCard : Claim7 := { stood := { row := adminPlaysUptoRow, standIns := [], harness := (true, "ada25f520ec721dee26733a7eee3f2570ad444f075e16f88e2fb6c03da1d1d84"), looks := false }, kinds := [], alts := [], laidByText := true, laidKinds := [.data, .data, .data], laidTests := true, laidLooks := .later }
def AdminPlaysUptoCardSaid : Prop := Claim7.holds Tryz.pinned (.plain (OpenSpec.upto adminPlaysSpec)) adminPlaysUptoCard

/-- THE SECOND FORM's CARD OF 'skylarklaw22.MoveKeeps'. -/
def moveKeepsUptoCard : Claim7 := { stood := { row := moveKeepsUptoRow, standIns := [], harness := (true, "ada25f520ec721dee26733a7eee3f2570ad444f075e16f88e2fb6c03da1d1d84"), looks := false }, kinds := [], alts := [], laidByText := true, laidKinds := [.data, .data, .data], laidTests := true, laidLooks := .later }
def MoveKeepsUptoCardSaid : Prop := Claim7.holds Tryz.pinned (.plain (OpenSpec.upto moveKeepsSpec)) moveKeepsUptoCard

/-- THE SECOND FORM's CARD OF 'skylarklaw22.MovePlays'. -/
def movePlaysUptoCard : Claim7 := { stood := { row := movePlaysUptoRow, standIns := [], harness := (true, "ada25f520ec721dee26733a7eee3f2570ad444f075e16f88e2fb6c03da1d1d84"), looks := false }, kinds := [], alts := [], laidByText := true, laidKinds := [.data, .data, .data], laidTests := true, laidLooks := .later }
def MovePlaysUptoCardSaid : Prop := Claim7.holds Tryz.pinned (.plain (OpenSpec.upto movePlaysSpec)) movePlaysUptoCard

/-- THE SECOND FORM's CARD OF 'skylarklaw22.MoveRefuses'. -/
def moveRefusesUptoCard : Claim7 := { stood := { row := moveRefusesUptoRow, standIns := [], harness := (true, "ada25f520ec721dee26733a7eee3f2570ad444f075e16f88e2fb6c03da1d1d84"), looks := false }, kinds := [], alts := [], laidByText := true, laidKinds := [.data, .data, .data], laidTests := true, laidLooks := .later }
def MoveRefusesUptoCardSaid : Prop := Claim7.holds Tryz.pinned (.plain (OpenSpec.upto moveRefusesSpec)) moveRefusesUptoCard

/-- THE SECOND FORM's CARD OF 'skylarklaw22.MoveAnswers'. -/
def moveAnswersUptoCard : Claim7 := { stood := { row := moveAnswersUptoRow, standIns := [], harness := (true, "ada25f520ec721dee26733a7eee3f2570ad444f075e16f88e2fb6c03da1d1d84"), looks := false }, kinds := [], alts := [], laidByText := true, laidKinds := [.data, .data, .data], laidTests := true, laidLooks := .later }
def MoveAnswersUptoCardSaid : Prop := Claim7.holds Tryz.pinned (.plain (OpenSpec.upto moveAnswersSpec)) moveAnswersUptoCard
end Rows
end Go.Proofs.YtekaeegjohanjaaGreatDoor
