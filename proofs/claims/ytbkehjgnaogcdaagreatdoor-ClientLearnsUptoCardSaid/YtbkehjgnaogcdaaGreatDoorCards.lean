/-
  DERIVED. GIVEN WITH THE SEED: THE CARDS: each row of YtbkehjgnaogcdaaGreatDoorRows.lean that lists a variable, with what it lists TIED to the program's text (the seventh form; the later family's looks); each row that meets fmt, with fmt's text TOLD by the authors' own Lean function (tested against real Go, not proved from fmt's source: count such statements apart). THE CARD IS WHAT COUNTS. Prove the row's statement (the work); the ties are given (YtbkehjgnaogcdaaGreatDoorTie.lean); close each card by the builder's one call (the guide's Derived/Test/ToyasCard.lean, 'card_holds'). Laid BY PROGRAM, IN A SANDBOX (cutbox-door.mjs). By AI agents, Wed Nov 11 2026. No macro, syntax, notation, axiom, sorry.
-/
import Derived.Test.YtbkehjgnaogcdaaGreatDoorRows
import GoSem.ClaimSeven
namespace Go.Proofs.YtbkehjgnaogcdaaGreatDoor
namespace Rows

/-- THE TIED CARD OF 'skylarklaw18.AdminPlays'. -/
def adminPlaysCard : Claim7 := { stood := { row := adminPlaysRow, standIns := [], harness := (true, "7bcd91787ae6664cb00b7def313b92deb2fefd37fe4b5b4466ee4e86fdb19698"), looks := false }, kinds := [], alts := [], laidByText := true, laidKinds := [.data, .data, .data], laidTests := true, laidLooks := .later }
def AdminPlaysCardSaid : Prop := Claim7.holds Tryz.pinned (.plain (OpenSpec.ofChange adminPlaysSpec)) adminPlaysCard

/-- THE TIED CARD OF 'skylarklaw24.ClientOnce'. -/
def clientOnceCard : Claim7 := { stood := { row := clientOnceRow, standIns := [], harness := (true, "7bcd91787ae6664cb00b7def313b92deb2fefd37fe4b5b4466ee4e86fdb19698"), looks := false }, kinds := [], alts := [], laidByText := true, laidKinds := [.data, .data, .data], laidTests := true, laidLooks := .later }
def ClientOnceCardSaid : Prop := Claim7.holds Tryz.pinned (.plain (OpenSpec.ofChange clientOnceSpec)) clientOnceCard

/-- THE TIED CARD OF 'skylarklaw24.ClientLearns'. -/
def clientLearnsCard : Claim7 := { stood := { row := clientLearnsRow, standIns := [], harness := (true, "7bcd91787ae6664cb00b7def313b92deb2fefd37fe4b5b4466ee4e86fdb19698"), looks := false }, kinds := [], alts := [], laidByText := true, laidKinds := [.data, .data, .data], laidTests := true, laidLooks := .later }
def ClientLearnsCardSaid : Prop := Claim7.holds Tryz.pinned (.plain (OpenSpec.ofChange clientLearnsSpec)) clientLearnsCard

/-- THE TIED CARD OF 'skylarklaw22.MoveKeeps'. -/
def moveKeepsCard : Claim7 := { stood := { row := moveKeepsRow, standIns := [], harness := (true, "7bcd91787ae6664cb00b7def313b92deb2fefd37fe4b5b4466ee4e86fdb19698"), looks := false }, kinds := [], alts := [], laidByText := true, laidKinds := [.data, .data, .data], laidTests := true, laidLooks := .later }
def MoveKeepsCardSaid : Prop := Claim7.holds Tryz.pinned (.plain (OpenSpec.ofChange moveKeepsSpec)) moveKeepsCard

/-- THE TIED CARD OF 'skylarklaw22.MovePlays'. -/
def movePlaysCard : Claim7 := { stood := { row := movePlaysRow, standIns := [], harness := (true, "7bcd91787ae6664cb00b7def313b92deb2fefd37fe4b5b4466ee4e86fdb19698"), looks := false }, kinds := [], alts := [], laidByText := true, laidKinds := [.data, .data, .data], laidTests := true, laidLooks := .later }
def MovePlaysCardSaid : Prop := Claim7.holds Tryz.pinned (.plain (OpenSpec.ofChange movePlaysSpec)) movePlaysCard

/-- THE TIED CARD OF 'skylarklaw22.MoveRefuses'. -/
def moveRefusesCard : Claim7 := { stood := { row := moveRefusesRow, standIns := [], harness := (true, "7bcd91787ae6664cb00b7def313b92deb2fefd37fe4b5b4466ee4e86fdb19698"), looks := false }, kinds := [], alts := [], laidByText := true, laidKinds := [.data, .data, .data], laidTests := true, laidLooks := .later }
def MoveRefusesCardSaid : Prop := Claim7.holds Tryz.pinned (.plain (OpenSpec.ofChange moveRefusesSpec)) moveRefusesCard

/-- THE TIED CARD OF 'skylarklaw22.MoveAnswers'. -/
def moveAnswersCard : Claim7 := { stood := { row := moveAnswersRow, standIns := [], harness := (true, "7bcd91787ae6664cb00b7def313b92deb2fefd37fe4b5b4466ee4e86fdb19698"), looks := false }, kinds := [], alts := [], laidByText := true, laidKinds := [.data, .data, .data], laidTests := true, laidLooks := .later }
def MoveAnswersCardSaid : Prop := Claim7.holds Tryz.pinned (.plain (OpenSpec.ofChange moveAnswersSpec)) moveAnswersCard

/-- THE SECOND FORM's CARD OF 'skylarklaw18.AdminPlays'. -/
def adminPlaysUptoCard : Claim7 := { stood := { row := adminPlaysUptoRow, standIns := [], harness := (true, "7bcd91787ae6664cb00b7def313b92deb2fefd37fe4b5b4466ee4e86fdb19698"), looks := false }, kinds := [], alts := [], laidByText := true, laidKinds := [.data, .data, .data], laidTests := true, laidLooks := .later }
def AdminPlaysUptoCardSaid : Prop := Claim7.holds Tryz.pinned (.plain (OpenSpec.upto adminPlaysSpec)) adminPlaysUptoCard

/-- THE SECOND FORM's CARD OF 'skylarklaw24.ClientOnce'. -/
def clientOnceUptoCard : Claim7 := { stood := { row := clientOnceUptoRow, standIns := [], harness := (true, "7bcd91787ae6664cb00b7def313b92deb2fefd37fe4b5b4466ee4e86fdb19698"), looks := false }, kinds := [], alts := [], laidByText := true, laidKinds := [.data, .data, .data], laidTests := true, laidLooks := .later }
def ClientOnceUptoCardSaid : Prop := Claim7.holds Tryz.pinned (.plain (OpenSpec.upto clientOnceSpec)) clientOnceUptoCard

/-- THE SECOND FORM's CARD OF 'skylarklaw24.ClientLearns'. -/
def clientLearnsUptoCard : Claim7 := { stood := { row := clientLearnsUptoRow, standIns := [], harness := (true, "7bcd91787ae6664cb00b7def313b92deb2fefd37fe4b5b4466ee4e86fdb19698"), looks := false }, kinds := [], alts := [], laidByText := true, laidKinds := [.data, .data, .data], laidTests := true, laidLooks := .later }
def ClientLearnsUptoCardSaid : Prop := Claim7.holds Tryz.pinned (.plain (OpenSpec.upto clientLearnsSpec)) clientLearnsUptoCard

/-- THE SECOND FORM's CARD OF 'skylarklaw22.MoveKeeps'. -/
def moveKeepsUptoCard : Claim7 := { stood := { row := moveKeepsUptoRow, standIns := [], harness := (true, "7bcd91787ae6664cb00b7def313b92deb2fefd37fe4b5b4466ee4e86fdb19698"), looks := false }, kinds := [], alts := [], laidByText := true, laidKinds := [.data, .data, .data], laidTests := true, laidLooks := .later }
def MoveKeepsUptoCardSaid : Prop := Claim7.holds Tryz.pinned (.plain (OpenSpec.upto moveKeepsSpec)) moveKeepsUptoCard

/-- THE SECOND FORM's CARD OF 'skylarklaw22.MovePlays'. -/
def movePlaysUptoCard : Claim7 := { stood := { row := movePlaysUptoRow, standIns := [], harness := (true, "7bcd91787ae6664cb00b7def313b92deb2fefd37fe4b5b4466ee4e86fdb19698"), looks := false }, kinds := [], alts := [], laidByText := true, laidKinds := [.data, .data, .data], laidTests := true, laidLooks := .later }
def MovePlaysUptoCardSaid : Prop := Claim7.holds Tryz.pinned (.plain (OpenSpec.upto movePlaysSpec)) movePlaysUptoCard

/-- THE SECOND FORM's CARD OF 'skylarklaw22.MoveRefuses'. -/
def moveRefusesUptoCard : Claim7 := { stood := { row := moveRefusesUptoRow, standIns := [], harness := (true, "7bcd91787ae6664cb00b7def313b92deb2fefd37fe4b5b4466ee4e86fdb19698"), looks := false }, kinds := [], alts := [], laidByText := true, laidKinds := [.data, .data, .data], laidTests := true, laidLooks := .later }
def MoveRefusesUptoCardSaid : Prop := Claim7.holds Tryz.pinned (.plain (OpenSpec.upto moveRefusesSpec)) moveRefusesUptoCard

/-- THE SECOND FORM's CARD OF 'skylarklaw22.MoveAnswers'. -/
def moveAnswersUptoCard : Claim7 := { stood := { row := moveAnswersUptoRow, standIns := [], harness := (true, "7bcd91787ae6664cb00b7def313b92deb2fefd37fe4b5b4466ee4e86fdb19698"), looks := false }, kinds := [], alts := [], laidByText := true, laidKinds := [.data, .data, .data], laidTests := true, laidLooks := .later }
def MoveAnswersUptoCardSaid : Prop := Claim7.holds Tryz.pinned (.plain (OpenSpec.upto moveAnswersSpec)) moveAnswersUptoCard
end Rows
end Go.Proofs.YtbkehjgnaogcdaaGreatDoor
