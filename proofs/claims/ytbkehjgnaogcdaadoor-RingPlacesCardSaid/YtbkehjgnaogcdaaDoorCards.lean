/-
  DERIVED. GIVEN WITH THE SEED: THE CARDS: each row of YtbkehjgnaogcdaaDoorRows.lean that lists a variable, with what it lists TIED to the program's text (the seventh form; the later family's looks); each row that meets fmt, with fmt's text TOLD by the authors' own Lean function (tested against real Go, not proved from fmt's source: count such statements apart). THE CARD IS WHAT COUNTS. Prove the row's statement (the work); the ties are given (YtbkehjgnaogcdaaDoorTie.lean); close each card by the builder's one call (the guide's Derived/Test/ToyasCard.lean, 'card_holds'). Laid BY PROGRAM, IN A SANDBOX (cutbox-door.mjs). By AI agents, Wed Nov 11 2026. No macro, syntax, notation, axiom, sorry.
-/
import Derived.Test.YtbkehjgnaogcdaaDoorRows
import GoSem.ClaimSeven
namespace Go.Proofs.YtbkehjgnaogcdaaDoor
namespace Rows

/-- THE TIED CARD OF 'skylarklaw06.RingLight'. -/
def ringLightCard : Claim7 := { stood := { row := ringLightRow, standIns := [], harness := (true, "aaeaf7eaca7653cd6f21e04a3c130627627f7565be3d1aab43bb63d78152e372"), looks := false }, kinds := [], alts := [], laidByText := true, laidKinds := [.data, .data, .data], laidTests := true, laidLooks := .later }
def RingLightCardSaid : Prop := Claim7.holds Tryd.pinned (.plain (OpenSpec.ofChange ringLightSpec)) ringLightCard

/-- THE TIED CARD OF 'skylarklaw06.RingPoints'. -/
def ringPointsCard : Claim7 := { stood := { row := ringPointsRow, standIns := [], harness := (true, "aaeaf7eaca7653cd6f21e04a3c130627627f7565be3d1aab43bb63d78152e372"), looks := false }, kinds := [], alts := [], laidByText := true, laidKinds := [.data, .data, .data], laidTests := true, laidLooks := .later }
def RingPointsCardSaid : Prop := Claim7.holds Tryd.pinned (.plain (OpenSpec.ofChange ringPointsSpec)) ringPointsCard

/-- THE TIED CARD OF 'skylarklaw06.RingPlaces'. -/
def ringPlacesCard : Claim7 := { stood := { row := ringPlacesRow, standIns := [], harness := (true, "aaeaf7eaca7653cd6f21e04a3c130627627f7565be3d1aab43bb63d78152e372"), looks := false }, kinds := [], alts := [], laidByText := true, laidKinds := [.data, .data, .data], laidTests := true, laidLooks := .later }
def RingPlacesCardSaid : Prop := Claim7.holds Tryd.pinned (.plain (OpenSpec.ofChange ringPlacesSpec)) ringPlacesCard

/-- THE TIED CARD OF 'skylarklaw06.RingKeys'. -/
def ringKeysCard : Claim7 := { stood := { row := ringKeysRow, standIns := [], harness := (true, "aaeaf7eaca7653cd6f21e04a3c130627627f7565be3d1aab43bb63d78152e372"), looks := false }, kinds := [], alts := [], laidByText := true, laidKinds := [.data, .data, .data], laidTests := true, laidLooks := .later }
def RingKeysCardSaid : Prop := Claim7.holds Tryd.pinned (.plain (OpenSpec.ofChange ringKeysSpec)) ringKeysCard

/-- THE TIED CARD OF 'skylarklaw06.RingGrows'. -/
def ringGrowsCard : Claim7 := { stood := { row := ringGrowsRow, standIns := [], harness := (true, "aaeaf7eaca7653cd6f21e04a3c130627627f7565be3d1aab43bb63d78152e372"), looks := false }, kinds := [], alts := [], laidByText := true, laidKinds := [.data, .data, .data], laidTests := true, laidLooks := .later }
def RingGrowsCardSaid : Prop := Claim7.holds Tryd.pinned (.plain (OpenSpec.ofChange ringGrowsSpec)) ringGrowsCard

/-- THE TIED CARD OF 'skylarklaw06.RingSame'. -/
def ringSameCard : Claim7 := { stood := { row := ringSameRow, standIns := [], harness := (true, "aaeaf7eaca7653cd6f21e04a3c130627627f7565be3d1aab43bb63d78152e372"), looks := false }, kinds := [], alts := [], laidByText := true, laidKinds := [.data, .data, .data], laidTests := true, laidLooks := .later }
def RingSameCardSaid : Prop := Claim7.holds Tryd.pinned (.plain (OpenSpec.ofChange ringSameSpec)) ringSameCard

/-- THE TIED CARD OF 'skylarklaw07.LayoutChanges'. -/
def layoutChangesCard : Claim7 := { stood := { row := layoutChangesRow, standIns := [], harness := (true, "aaeaf7eaca7653cd6f21e04a3c130627627f7565be3d1aab43bb63d78152e372"), looks := false }, kinds := [], alts := [], laidByText := true, laidKinds := [.data, .data, .data], laidTests := true, laidLooks := .later }
def LayoutChangesCardSaid : Prop := Claim7.holds Tryd.pinned (.plain (OpenSpec.ofChange layoutChangesSpec)) layoutChangesCard

/-- THE TIED CARD OF 'skylarklaw07.LayoutCursor'. -/
def layoutCursorCard : Claim7 := { stood := { row := layoutCursorRow, standIns := [], harness := (true, "aaeaf7eaca7653cd6f21e04a3c130627627f7565be3d1aab43bb63d78152e372"), looks := false }, kinds := [], alts := [], laidByText := true, laidKinds := [.data, .data, .data], laidTests := true, laidLooks := .later }
def LayoutCursorCardSaid : Prop := Claim7.holds Tryd.pinned (.plain (OpenSpec.ofChange layoutCursorSpec)) layoutCursorCard

/-- THE TIED CARD OF 'skylarklaw07.LayoutNext'. -/
def layoutNextCard : Claim7 := { stood := { row := layoutNextRow, standIns := [], harness := (true, "aaeaf7eaca7653cd6f21e04a3c130627627f7565be3d1aab43bb63d78152e372"), looks := false }, kinds := [], alts := [], laidByText := true, laidKinds := [.data, .data, .data], laidTests := true, laidLooks := .later }
def LayoutNextCardSaid : Prop := Claim7.holds Tryd.pinned (.plain (OpenSpec.ofChange layoutNextSpec)) layoutNextCard

/-- THE TIED CARD OF 'skylarklaw07.LayoutOnce'. -/
def layoutOnceCard : Claim7 := { stood := { row := layoutOnceRow, standIns := [], harness := (true, "aaeaf7eaca7653cd6f21e04a3c130627627f7565be3d1aab43bb63d78152e372"), looks := false }, kinds := [], alts := [], laidByText := true, laidKinds := [.data, .data, .data], laidTests := true, laidLooks := .later }
def LayoutOnceCardSaid : Prop := Claim7.holds Tryd.pinned (.plain (OpenSpec.ofChange layoutOnceSpec)) layoutOnceCard

/-- THE TIED CARD OF 'skylarklaw24.ClientEnds'. -/
def clientEndsCard : Claim7 := { stood := { row := clientEndsRow, standIns := [], harness := (true, "aaeaf7eaca7653cd6f21e04a3c130627627f7565be3d1aab43bb63d78152e372"), looks := false }, kinds := [], alts := [], laidByText := true, laidKinds := [.data, .data, .data], laidTests := true, laidLooks := .later }
def ClientEndsCardSaid : Prop := Claim7.holds Tryd.pinned (.plain (OpenSpec.ofChange clientEndsSpec)) clientEndsCard

/-- THE TIED CARD OF 'skylarklaw18.AdminOwns'. -/
def adminOwnsCard : Claim7 := { stood := { row := adminOwnsRow, standIns := [], harness := (true, "aaeaf7eaca7653cd6f21e04a3c130627627f7565be3d1aab43bb63d78152e372"), looks := false }, kinds := [], alts := [], laidByText := true, laidKinds := [.data, .data, .data], laidTests := true, laidLooks := .later }
def AdminOwnsCardSaid : Prop := Claim7.holds Tryd.pinned (.plain (OpenSpec.ofChange adminOwnsSpec)) adminOwnsCard

/-- THE TIED CARD OF 'skylarklaw18.AdminRefuses'. -/
def adminRefusesCard : Claim7 := { stood := { row := adminRefusesRow, standIns := [], harness := (true, "aaeaf7eaca7653cd6f21e04a3c130627627f7565be3d1aab43bb63d78152e372"), looks := false }, kinds := [], alts := [], laidByText := true, laidKinds := [.data, .data, .data], laidTests := true, laidLooks := .later }
def AdminRefusesCardSaid : Prop := Claim7.holds Tryd.pinned (.plain (OpenSpec.ofChange adminRefusesSpec)) adminRefusesCard

/-- THE TIED CARD OF 'skylarklaw18.AdminAlike'. -/
def adminAlikeCard : Claim7 := { stood := { row := adminAlikeRow, standIns := [], harness := (true, "aaeaf7eaca7653cd6f21e04a3c130627627f7565be3d1aab43bb63d78152e372"), looks := false }, kinds := [], alts := [], laidByText := true, laidKinds := [.data, .data, .data], laidTests := true, laidLooks := .later }
def AdminAlikeCardSaid : Prop := Claim7.holds Tryd.pinned (.plain (OpenSpec.ofChange adminAlikeSpec)) adminAlikeCard

/-- THE TIED CARD OF 'skylarklaw22.MoveSizes'. -/
def moveSizesCard : Claim7 := { stood := { row := moveSizesRow, standIns := [], harness := (true, "aaeaf7eaca7653cd6f21e04a3c130627627f7565be3d1aab43bb63d78152e372"), looks := false }, kinds := [], alts := [], laidByText := true, laidKinds := [.data, .data, .data], laidTests := true, laidLooks := .later }
def MoveSizesCardSaid : Prop := Claim7.holds Tryd.pinned (.plain (OpenSpec.ofChange moveSizesSpec)) moveSizesCard

/-- THE SECOND FORM's CARD OF 'skylarklaw06.RingLight'. -/
def ringLightUptoCard : Claim7 := { stood := { row := ringLightUptoRow, standIns := [], harness := (true, "aaeaf7eaca7653cd6f21e04a3c130627627f7565be3d1aab43bb63d78152e372"), looks := false }, kinds := [], alts := [], laidByText := true, laidKinds := [.data, .data, .data], laidTests := true, laidLooks := .later }
def RingLightUptoCardSaid : Prop := Claim7.holds Tryd.pinned (.plain (OpenSpec.upto ringLightSpec)) ringLightUptoCard

/-- THE SECOND FORM's CARD OF 'skylarklaw06.RingPoints'. -/
def ringPointsUptoCard : Claim7 := { stood := { row := ringPointsUptoRow, standIns := [], harness := (true, "aaeaf7eaca7653cd6f21e04a3c130627627f7565be3d1aab43bb63d78152e372"), looks := false }, kinds := [], alts := [], laidByText := true, laidKinds := [.data, .data, .data], laidTests := true, laidLooks := .later }
def RingPointsUptoCardSaid : Prop := Claim7.holds Tryd.pinned (.plain (OpenSpec.upto ringPointsSpec)) ringPointsUptoCard

/-- THE SECOND FORM's CARD OF 'skylarklaw06.RingPlaces'. -/
def ringPlacesUptoCard : Claim7 := { stood := { row := ringPlacesUptoRow, standIns := [], harness := (true, "aaeaf7eaca7653cd6f21e04a3c130627627f7565be3d1aab43bb63d78152e372"), looks := false }, kinds := [], alts := [], laidByText := true, laidKinds := [.data, .data, .data], laidTests := true, laidLooks := .later }
def RingPlacesUptoCardSaid : Prop := Claim7.holds Tryd.pinned (.plain (OpenSpec.upto ringPlacesSpec)) ringPlacesUptoCard

/-- THE SECOND FORM's CARD OF 'skylarklaw06.RingKeys'. -/
def ringKeysUptoCard : Claim7 := { stood := { row := ringKeysUptoRow, standIns := [], harness := (true, "aaeaf7eaca7653cd6f21e04a3c130627627f7565be3d1aab43bb63d78152e372"), looks := false }, kinds := [], alts := [], laidByText := true, laidKinds := [.data, .data, .data], laidTests := true, laidLooks := .later }
def RingKeysUptoCardSaid : Prop := Claim7.holds Tryd.pinned (.plain (OpenSpec.upto ringKeysSpec)) ringKeysUptoCard

/-- THE SECOND FORM's CARD OF 'skylarklaw06.RingGrows'. -/
def ringGrowsUptoCard : Claim7 := { stood := { row := ringGrowsUptoRow, standIns := [], harness := (true, "aaeaf7eaca7653cd6f21e04a3c130627627f7565be3d1aab43bb63d78152e372"), looks := false }, kinds := [], alts := [], laidByText := true, laidKinds := [.data, .data, .data], laidTests := true, laidLooks := .later }
def RingGrowsUptoCardSaid : Prop := Claim7.holds Tryd.pinned (.plain (OpenSpec.upto ringGrowsSpec)) ringGrowsUptoCard

/-- THE SECOND FORM's CARD OF 'skylarklaw06.RingSame'. -/
def ringSameUptoCard : Claim7 := { stood := { row := ringSameUptoRow, standIns := [], harness := (true, "aaeaf7eaca7653cd6f21e04a3c130627627f7565be3d1aab43bb63d78152e372"), looks := false }, kinds := [], alts := [], laidByText := true, laidKinds := [.data, .data, .data], laidTests := true, laidLooks := .later }
def RingSameUptoCardSaid : Prop := Claim7.holds Tryd.pinned (.plain (OpenSpec.upto ringSameSpec)) ringSameUptoCard

/-- THE SECOND FORM's CARD OF 'skylarklaw07.LayoutChanges'. -/
def layoutChangesUptoCard : Claim7 := { stood := { row := layoutChangesUptoRow, standIns := [], harness := (true, "aaeaf7eaca7653cd6f21e04a3c130627627f7565be3d1aab43bb63d78152e372"), looks := false }, kinds := [], alts := [], laidByText := true, laidKinds := [.data, .data, .data], laidTests := true, laidLooks := .later }
def LayoutChangesUptoCardSaid : Prop := Claim7.holds Tryd.pinned (.plain (OpenSpec.upto layoutChangesSpec)) layoutChangesUptoCard

/-- THE SECOND FORM's CARD OF 'skylarklaw07.LayoutCursor'. -/
def layoutCursorUptoCard : Claim7 := { stood := { row := layoutCursorUptoRow, standIns := [], harness := (true, "aaeaf7eaca7653cd6f21e04a3c130627627f7565be3d1aab43bb63d78152e372"), looks := false }, kinds := [], alts := [], laidByText := true, laidKinds := [.data, .data, .data], laidTests := true, laidLooks := .later }
def LayoutCursorUptoCardSaid : Prop := Claim7.holds Tryd.pinned (.plain (OpenSpec.upto layoutCursorSpec)) layoutCursorUptoCard

/-- THE SECOND FORM's CARD OF 'skylarklaw07.LayoutNext'. -/
def layoutNextUptoCard : Claim7 := { stood := { row := layoutNextUptoRow, standIns := [], harness := (true, "aaeaf7eaca7653cd6f21e04a3c130627627f7565be3d1aab43bb63d78152e372"), looks := false }, kinds := [], alts := [], laidByText := true, laidKinds := [.data, .data, .data], laidTests := true, laidLooks := .later }
def LayoutNextUptoCardSaid : Prop := Claim7.holds Tryd.pinned (.plain (OpenSpec.upto layoutNextSpec)) layoutNextUptoCard

/-- THE SECOND FORM's CARD OF 'skylarklaw07.LayoutOnce'. -/
def layoutOnceUptoCard : Claim7 := { stood := { row := layoutOnceUptoRow, standIns := [], harness := (true, "aaeaf7eaca7653cd6f21e04a3c130627627f7565be3d1aab43bb63d78152e372"), looks := false }, kinds := [], alts := [], laidByText := true, laidKinds := [.data, .data, .data], laidTests := true, laidLooks := .later }
def LayoutOnceUptoCardSaid : Prop := Claim7.holds Tryd.pinned (.plain (OpenSpec.upto layoutOnceSpec)) layoutOnceUptoCard

/-- THE SECOND FORM's CARD OF 'skylarklaw24.ClientEnds'. -/
def clientEndsUptoCard : Claim7 := { stood := { row := clientEndsUptoRow, standIns := [], harness := (true, "aaeaf7eaca7653cd6f21e04a3c130627627f7565be3d1aab43bb63d78152e372"), looks := false }, kinds := [], alts := [], laidByText := true, laidKinds := [.data, .data, .data], laidTests := true, laidLooks := .later }
def ClientEndsUptoCardSaid : Prop := Claim7.holds Tryd.pinned (.plain (OpenSpec.upto clientEndsSpec)) clientEndsUptoCard

/-- THE SECOND FORM's CARD OF 'skylarklaw18.AdminOwns'. -/
def adminOwnsUptoCard : Claim7 := { stood := { row := adminOwnsUptoRow, standIns := [], harness := (true, "aaeaf7eaca7653cd6f21e04a3c130627627f7565be3d1aab43bb63d78152e372"), looks := false }, kinds := [], alts := [], laidByText := true, laidKinds := [.data, .data, .data], laidTests := true, laidLooks := .later }
def AdminOwnsUptoCardSaid : Prop := Claim7.holds Tryd.pinned (.plain (OpenSpec.upto adminOwnsSpec)) adminOwnsUptoCard

/-- THE SECOND FORM's CARD OF 'skylarklaw18.AdminRefuses'. -/
def adminRefusesUptoCard : Claim7 := { stood := { row := adminRefusesUptoRow, standIns := [], harness := (true, "aaeaf7eaca7653cd6f21e04a3c130627627f7565be3d1aab43bb63d78152e372"), looks := false }, kinds := [], alts := [], laidByText := true, laidKinds := [.data, .data, .data], laidTests := true, laidLooks := .later }
def AdminRefusesUptoCardSaid : Prop := Claim7.holds Tryd.pinned (.plain (OpenSpec.upto adminRefusesSpec)) adminRefusesUptoCard

/-- THE SECOND FORM's CARD OF 'skylarklaw18.AdminAlike'. -/
def adminAlikeUptoCard : Claim7 := { stood := { row := adminAlikeUptoRow, standIns := [], harness := (true, "aaeaf7eaca7653cd6f21e04a3c130627627f7565be3d1aab43bb63d78152e372"), looks := false }, kinds := [], alts := [], laidByText := true, laidKinds := [.data, .data, .data], laidTests := true, laidLooks := .later }
def AdminAlikeUptoCardSaid : Prop := Claim7.holds Tryd.pinned (.plain (OpenSpec.upto adminAlikeSpec)) adminAlikeUptoCard

/-- THE SECOND FORM's CARD OF 'skylarklaw22.MoveSizes'. -/
def moveSizesUptoCard : Claim7 := { stood := { row := moveSizesUptoRow, standIns := [], harness := (true, "aaeaf7eaca7653cd6f21e04a3c130627627f7565be3d1aab43bb63d78152e372"), looks := false }, kinds := [], alts := [], laidByText := true, laidKinds := [.data, .data, .data], laidTests := true, laidLooks := .later }
def MoveSizesUptoCardSaid : Prop := Claim7.holds Tryd.pinned (.plain (OpenSpec.upto moveSizesSpec)) moveSizesUptoCard
end Rows
end Go.Proofs.YtbkehjgnaogcdaaDoor
