/-
  DERIVED. GIVEN WITH THE SEED: THE CARDS: each row of YtekaeegjohanjaaDoorRows.lean that lists a variable, with what it lists TIED to the program's text (the seventh form; the later family's looks); each row that meets fmt, with fmt's text TOLD by the authors' own Lean function (tested against real Go, not proved from fmt's source: count such statements apart). THE CARD IS WHAT COUNTS. Prove the row's statement (the work); the ties are given (YtekaeegjohanjaaDoorTie.lean); close each card by the builder's one call (the guide's Derived/Test/ToyasCard.lean, 'card_holds'). Laid BY PROGRAM, IN A SANDBOX (cutbox-door.mjs). By AI agents, Wed Nov 11 2026. No macro, syntax, notation, axiom, sorry.
-/
import Derived.Test.YtekaeegjohanjaaDoorRows
import GoSem.ClaimSeven
namespace Go.Proofs.YtekaeegjohanjaaDoor
namespace Rows

/-- THE TIED CARD OF 'skylarklaw22.MoveSizes'. -/
def moveSizesCard : Claim7 := { stood := { row := moveSizesRow, standIns := [], harness := (true, "7711549937673ace2560c2f21493256e4a89ced9479baf33ded7a5348e2e2612"), looks := false }, kinds := [], alts := [], laidByText := true, laidKinds := [.data, .data, .data], laidTests := true, laidLooks := .later }
def MoveSizesCardSaid : Prop := Claim7.holds Tryd.pinned (.plain (OpenSpec.ofChange moveSizesSpec)) moveSizesCard

/-- THE SECOND FORM's CARD OF 'skylarklaw22.MoveSizes'. -/
def moveSizesUptoCard : Claim7 := { stood := { row := moveSizesUptoRow, standIns := [], harness := (true, "7711549937673ace2560c2f21493256e4a89ced9479baf33ded7a5348e2e2612"), looks := false }, kinds := [], alts := [], laidByText := true, laidKinds := [.data, .data, .data], laidTests := true, laidLooks := .later }
def MoveSizesUptoCardSaid : Prop := Claim7.holds Tryd.pinned (.plain (OpenSpec.upto moveSizesSpec)) moveSizesUptoCard
end Rows
end Go.Proofs.YtekaeegjohanjaaDoor
