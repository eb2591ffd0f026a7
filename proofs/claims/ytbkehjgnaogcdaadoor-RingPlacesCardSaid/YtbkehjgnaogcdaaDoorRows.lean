/-
  NARROWER THAN 'FOR EVERY INPUT', by the rows' own cells (each row's printed sentence says how): RingLight: laid · RingPoints: laid · RingPlaces: laid · RingKeys: laid · RingGrows: laid · RingSame: laid · LayoutChanges: laid · LayoutCursor: laid · LayoutNext: laid · LayoutOnce: laid · ClientEnds: laid · AdminOwns: laid · AdminRefuses: laid · AdminAlike: laid · MoveSizes: laid.
  DERIVED. THE GIVEN ROWS OF THIS SEAT. 15 by the template 'for every input the law returns true; each argument reads behind the call as it read before'; 0 by the template 'total and deterministic' (their statements: YtbkehjgnaogcdaaDoorTotals.lean).
  GIVEN WITH THE SEED: the statements are not yours to turn. If you find one false, say at which input.
  Laid BY PROGRAM, IN A SANDBOX (cutbox-rows.mjs): the forced cells as the released guide's own fill.sh prints them over the translation 07278eb576bce600… (all of the seat's roots in one cut). By AI agents, Wed Nov 11 2026. No macro, syntax, notation, axiom, sorry.
-/
import Derived.Test.YtbkehjgnaogcdaaDoorChecked
import GoSem.Claim
import GoSem.ClaimJoined
import GoSem.ClaimMapViews
import Derived.JoinedTies
import Derived.KernelRfl
namespace Go.Proofs.YtbkehjgnaogcdaaDoor
/- THE CELL 'sum', in the pinned program and in every row, IS THE sha256 OF THE DUMP (.gsa) THAT YtbkehjgnaogcdaaDoorProg.lean LOADS. Nothing in Lean hashes anything: it is a label: what it is worth is what the hold of that sum in a sandbox is worth. -/
noncomputable def Tryd.pinned : Pinned := { name := "ytbkehjgnaogcdaadoor", sum := "07278eb576bce60043d0af3de6801c5dee628929ccce2926bf68b81b2e76097e", checked := Tryd.checked }
namespace Rows
def none {H : Type} : Left H := { results := [], args := [] }

/- WHAT THE LISTED PACKAGE-LEVEL VARIABLES READ AS WHEN THE CALL BEGINS. Each datum BY PROGRAM (the guide's laid-datum.mjs) off the statement by which the dump's own 'gosem.cut.vars' lays the variable. In a bare row this is a premise. The card (YtbkehjgnaogcdaaDoorCards.lean) ties it to the program's text. -/
def laid_math_bits_deBruijn32tab {H : Type} : DataW H := .agg [.lit (.int .u8 0), .lit (.int .u8 1), .lit (.int .u8 28), .lit (.int .u8 2), .lit (.int .u8 29), .lit (.int .u8 14), .lit (.int .u8 24), .lit (.int .u8 3), .lit (.int .u8 30), .lit (.int .u8 22), .lit (.int .u8 20), .lit (.int .u8 15), .lit (.int .u8 25), .lit (.int .u8 17), .lit (.int .u8 4), .lit (.int .u8 8), .lit (.int .u8 31), .lit (.int .u8 27), .lit (.int .u8 13), .lit (.int .u8 23), .lit (.int .u8 21), .lit (.int .u8 19), .lit (.int .u8 16), .lit (.int .u8 7), .lit (.int .u8 26), .lit (.int .u8 12), .lit (.int .u8 18), .lit (.int .u8 6), .lit (.int .u8 11), .lit (.int .u8 5), .lit (.int .u8 10), .lit (.int .u8 9)]
def laid_math_bits_deBruijn64tab {H : Type} : DataW H := .agg [.lit (.int .u8 0), .lit (.int .u8 1), .lit (.int .u8 56), .lit (.int .u8 2), .lit (.int .u8 57), .lit (.int .u8 49), .lit (.int .u8 28), .lit (.int .u8 3), .lit (.int .u8 61), .lit (.int .u8 58), .lit (.int .u8 42), .lit (.int .u8 50), .lit (.int .u8 38), .lit (.int .u8 29), .lit (.int .u8 17), .lit (.int .u8 4), .lit (.int .u8 62), .lit (.int .u8 47), .lit (.int .u8 59), .lit (.int .u8 36), .lit (.int .u8 45), .lit (.int .u8 43), .lit (.int .u8 51), .lit (.int .u8 22), .lit (.int .u8 53), .lit (.int .u8 39), .lit (.int .u8 33), .lit (.int .u8 30), .lit (.int .u8 24), .lit (.int .u8 18), .lit (.int .u8 12), .lit (.int .u8 5), .lit (.int .u8 63), .lit (.int .u8 55), .lit (.int .u8 48), .lit (.int .u8 27), .lit (.int .u8 60), .lit (.int .u8 41), .lit (.int .u8 37), .lit (.int .u8 16), .lit (.int .u8 46), .lit (.int .u8 35), .lit (.int .u8 44), .lit (.int .u8 21), .lit (.int .u8 52), .lit (.int .u8 32), .lit (.int .u8 23), .lit (.int .u8 11), .lit (.int .u8 54), .lit (.int .u8 26), .lit (.int .u8 40), .lit (.int .u8 15), .lit (.int .u8 34), .lit (.int .u8 20), .lit (.int .u8 31), .lit (.int .u8 10), .lit (.int .u8 25), .lit (.int .u8 14), .lit (.int .u8 19), .lit (.int .u8 9), .lit (.int .u8 13), .lit (.int .u8 8), .lit (.int .u8 7), .lit (.int .u8 6)]
def laid_internal_strconv_uint64pow10 {H : Type} : DataW H := .agg [.lit (.int .u64 1), .lit (.int .u64 10), .lit (.int .u64 100), .lit (.int .u64 1000), .lit (.int .u64 10000), .lit (.int .u64 100000), .lit (.int .u64 1000000), .lit (.int .u64 10000000), .lit (.int .u64 100000000), .lit (.int .u64 1000000000), .lit (.int .u64 10000000000), .lit (.int .u64 100000000000), .lit (.int .u64 1000000000000), .lit (.int .u64 10000000000000), .lit (.int .u64 100000000000000), .lit (.int .u64 1000000000000000), .lit (.int .u64 10000000000000000), .lit (.int .u64 100000000000000000), .lit (.int .u64 1000000000000000000), .lit (.int .u64 10000000000000000000)]

/-- 'skylarklaw06.RingLight': WHATEVER THE INPUT: true; the input reads as it did. -/
def ringLightSpec : ChangeSpec := { name := "ringLight", fn := fun _ => fun
  | [d1, d2] => { results := [.lit (.bool true)], args := [d1, d2] }
  | _ => none }
def ringLightRow : OpenClaim := { program := "ytbkehjgnaogcdaadoor", sum := "07278eb576bce60043d0af3de6801c5dee628929ccce2926bf68b81b2e76097e", func := "skylark/skylarklaw06.RingLight", spec := "ringLight", unfollowed := true, recurses := true, named := ["internal/strconv.uint64pow10", "math/bits.deBruijn32tab", "math/bits.deBruijn64tab"], apart := false, laid := [("math/bits.deBruijn32tab", laid_math_bits_deBruijn32tab), ("math/bits.deBruijn64tab", laid_math_bits_deBruijn64tab), ("internal/strconv.uint64pow10", laid_internal_strconv_uint64pow10)] }
def RingLightSaid : Prop := ringLightRow.holds Tryd.pinned (OpenSpec.ofChange ringLightSpec)

/-- ITS FALSE NEIGHBOUR: 'it returns false'. Refute it at one input. -/
def ringLightWrong : ChangeSpec := { name := "ringLight", fn := fun _ => fun
  | [d1, d2] => { results := [.lit (.bool false)], args := [d1, d2] }
  | _ => none }
def RingLightWrongFalsely : Prop := ringLightRow.holds Tryd.pinned (OpenSpec.ofChange ringLightWrong)

/-- 'skylarklaw06.RingPoints': WHATEVER THE INPUT: true; the input reads as it did. -/
def ringPointsSpec : ChangeSpec := { name := "ringPoints", fn := fun _ => fun
  | [d1, d2] => { results := [.lit (.bool true)], args := [d1, d2] }
  | _ => none }
def ringPointsRow : OpenClaim := { program := "ytbkehjgnaogcdaadoor", sum := "07278eb576bce60043d0af3de6801c5dee628929ccce2926bf68b81b2e76097e", func := "skylark/skylarklaw06.RingPoints", spec := "ringPoints", unfollowed := true, recurses := true, named := ["internal/strconv.uint64pow10", "math/bits.deBruijn32tab", "math/bits.deBruijn64tab"], apart := false, laid := [("math/bits.deBruijn32tab", laid_math_bits_deBruijn32tab), ("math/bits.deBruijn64tab", laid_math_bits_deBruijn64tab), ("internal/strconv.uint64pow10", laid_internal_strconv_uint64pow10)] }
def RingPointsSaid : Prop := ringPointsRow.holds Tryd.pinned (OpenSpec.ofChange ringPointsSpec)

/-- ITS FALSE NEIGHBOUR: 'it returns false'. Refute it at one input. -/
def ringPointsWrong : ChangeSpec := { name := "ringPoints", fn := fun _ => fun
  | [d1, d2] => { results := [.lit (.bool false)], args := [d1, d2] }
  | _ => none }
def RingPointsWrongFalsely : Prop := ringPointsRow.holds Tryd.pinned (OpenSpec.ofChange ringPointsWrong)

/-- 'skylarklaw06.RingPlaces': WHATEVER THE INPUT: true; the input reads as it did. -/
def ringPlacesSpec : ChangeSpec := { name := "ringPlaces", fn := fun _ => fun
  | [d1, d2] => { results := [.lit (.bool true)], args := [d1, d2] }
  | _ => none }
def ringPlacesRow : OpenClaim := { program := "ytbkehjgnaogcdaadoor", sum := "07278eb576bce60043d0af3de6801c5dee628929ccce2926bf68b81b2e76097e", func := "skylark/skylarklaw06.RingPlaces", spec := "ringPlaces", unfollowed := true, recurses := true, named := ["internal/strconv.uint64pow10", "math/bits.deBruijn32tab", "math/bits.deBruijn64tab"], apart := false, laid := [("math/bits.deBruijn32tab", laid_math_bits_deBruijn32tab), ("math/bits.deBruijn64tab", laid_math_bits_deBruijn64tab), ("internal/strconv.uint64pow10", laid_internal_strconv_uint64pow10)] }
def RingPlacesSaid : Prop := ringPlacesRow.holds Tryd.pinned (OpenSpec.ofChange ringPlacesSpec)

/-- ITS FALSE NEIGHBOUR: 'it returns false'. Refute it at one input. -/
def ringPlacesWrong : ChangeSpec := { name := "ringPlaces", fn := fun _ => fun
  | [d1, d2] => { results := [.lit (.bool false)], args := [d1, d2] }
  | _ => none }
def RingPlacesWrongFalsely : Prop := ringPlacesRow.holds Tryd.pinned (OpenSpec.ofChange ringPlacesWrong)

/-- 'skylarklaw06.RingKeys': WHATEVER THE INPUT: true; the input reads as it did. -/
def ringKeysSpec : ChangeSpec := { name := "ringKeys", fn := fun _ => fun
  | [d1, d2, d3] => { results := [.lit (.bool true)], args := [d1, d2, d3] }
  | _ => none }
def ringKeysRow : OpenClaim := { program := "ytbkehjgnaogcdaadoor", sum := "07278eb576bce60043d0af3de6801c5dee628929ccce2926bf68b81b2e76097e", func := "skylark/skylarklaw06.RingKeys", spec := "ringKeys", unfollowed := true, recurses := true, named := ["internal/strconv.uint64pow10", "math/bits.deBruijn32tab", "math/bits.deBruijn64tab"], apart := false, laid := [("math/bits.deBruijn32tab", laid_math_bits_deBruijn32tab), ("math/bits.deBruijn64tab", laid_math_bits_deBruijn64tab), ("internal/strconv.uint64pow10", laid_internal_strconv_uint64pow10)] }
def RingKeysSaid : Prop := ringKeysRow.holds Tryd.pinned (OpenSpec.ofChange ringKeysSpec)

/-- ITS FALSE NEIGHBOUR: 'it returns false'. Refute it at one input. -/
def ringKeysWrong : ChangeSpec := { name := "ringKeys", fn := fun _ => fun
  | [d1, d2, d3] => { results := [.lit (.bool false)], args := [d1, d2, d3] }
  | _ => none }
def RingKeysWrongFalsely : Prop := ringKeysRow.holds Tryd.pinned (OpenSpec.ofChange ringKeysWrong)

/-- 'skylarklaw06.RingGrows': WHATEVER THE INPUT: true; the input reads as it did. -/
def ringGrowsSpec : ChangeSpec := { name := "ringGrows", fn := fun _ => fun
  | [d1, d2, d3] => { results := [.lit (.bool true)], args := [d1, d2, d3] }
  | _ => none }
def ringGrowsRow : OpenClaim := { program := "ytbkehjgnaogcdaadoor", sum := "07278eb576bce60043d0af3de6801c5dee628929ccce2926bf68b81b2e76097e", func := "skylark/skylarklaw06.RingGrows", spec := "ringGrows", unfollowed := true, recurses := true, named := ["internal/strconv.uint64pow10", "math/bits.deBruijn32tab", "math/bits.deBruijn64tab"], apart := false, laid := [("math/bits.deBruijn32tab", laid_math_bits_deBruijn32tab), ("math/bits.deBruijn64tab", laid_math_bits_deBruijn64tab), ("internal/strconv.uint64pow10", laid_internal_strconv_uint64pow10)] }
def RingGrowsSaid : Prop := ringGrowsRow.holds Tryd.pinned (OpenSpec.ofChange ringGrowsSpec)

/-- ITS FALSE NEIGHBOUR: 'it returns false'. Refute it at one input. -/
def ringGrowsWrong : ChangeSpec := { name := "ringGrows", fn := fun _ => fun
  | [d1, d2, d3] => { results := [.lit (.bool false)], args := [d1, d2, d3] }
  | _ => none }
def RingGrowsWrongFalsely : Prop := ringGrowsRow.holds Tryd.pinned (OpenSpec.ofChange ringGrowsWrong)

/-- 'skylarklaw06.RingSame': WHATEVER THE INPUT: true; the input reads as it did. -/
def ringSameSpec : ChangeSpec := { name := "ringSame", fn := fun _ => fun
  | [d1, d2] => { results := [.lit (.bool true)], args := [d1, d2] }
  | _ => none }
def ringSameRow : OpenClaim := { program := "ytbkehjgnaogcdaadoor", sum := "07278eb576bce60043d0af3de6801c5dee628929ccce2926bf68b81b2e76097e", func := "skylark/skylarklaw06.RingSame", spec := "ringSame", unfollowed := true, recurses := true, named := ["internal/strconv.uint64pow10", "math/bits.deBruijn32tab", "math/bits.deBruijn64tab"], apart := false, laid := [("math/bits.deBruijn32tab", laid_math_bits_deBruijn32tab), ("math/bits.deBruijn64tab", laid_math_bits_deBruijn64tab), ("internal/strconv.uint64pow10", laid_internal_strconv_uint64pow10)] }
def RingSameSaid : Prop := ringSameRow.holds Tryd.pinned (OpenSpec.ofChange ringSameSpec)

/-- ITS FALSE NEIGHBOUR: 'it returns false'. Refute it at one input. -/
def ringSameWrong : ChangeSpec := { name := "ringSame", fn := fun _ => fun
  | [d1, d2] => { results := [.lit (.bool false)], args := [d1, d2] }
  | _ => none }
def RingSameWrongFalsely : Prop := ringSameRow.holds Tryd.pinned (OpenSpec.ofChange ringSameWrong)

/-- 'skylarklaw07.LayoutChanges': WHATEVER THE INPUT: true; the input reads as it did. -/
def layoutChangesSpec : ChangeSpec := { name := "layoutChanges", fn := fun _ => fun
  | [d1, d2, d3] => { results := [.lit (.bool true)], args := [d1, d2, d3] }
  | _ => none }
def layoutChangesRow : OpenClaim := { program := "ytbkehjgnaogcdaadoor", sum := "07278eb576bce60043d0af3de6801c5dee628929ccce2926bf68b81b2e76097e", func := "skylark/skylarklaw07.LayoutChanges", spec := "layoutChanges", unfollowed := true, recurses := true, named := ["internal/strconv.uint64pow10", "math/bits.deBruijn32tab", "math/bits.deBruijn64tab"], apart := false, laid := [("math/bits.deBruijn32tab", laid_math_bits_deBruijn32tab), ("math/bits.deBruijn64tab", laid_math_bits_deBruijn64tab), ("internal/strconv.uint64pow10", laid_internal_strconv_uint64pow10)] }
def LayoutChangesSaid : Prop := layoutChangesRow.holds Tryd.pinned (OpenSpec.ofChange layoutChangesSpec)

/-- ITS FALSE NEIGHBOUR: 'it returns false'. Refute it at one input. -/
def layoutChangesWrong : ChangeSpec := { name := "layoutChanges", fn := fun _ => fun
  | [d1, d2, d3] => { results := [.lit (.bool false)], args := [d1, d2, d3] }
  | _ => none }
def LayoutChangesWrongFalsely : Prop := layoutChangesRow.holds Tryd.pinned (OpenSpec.ofChange layoutChangesWrong)

/-- 'skylarklaw07.LayoutCursor': WHATEVER THE INPUT: true; the input reads as it did. -/
def layoutCursorSpec : ChangeSpec := { name := "layoutCursor", fn := fun _ => fun
  | [d1, d2] => { results := [.lit (.bool true)], args := [d1, d2] }
  | _ => none }
def layoutCursorRow : OpenClaim := { program := "ytbkehjgnaogcdaadoor", sum := "07278eb576bce60043d0af3de6801c5dee628929ccce2926bf68b81b2e76097e", func := "skylark/skylarklaw07.LayoutCursor", spec := "layoutCursor", unfollowed := true, recurses := true, named := ["internal/strconv.uint64pow10", "math/bits.deBruijn32tab", "math/bits.deBruijn64tab"], apart := false, laid := [("math/bits.deBruijn32tab", laid_math_bits_deBruijn32tab), ("math/bits.deBruijn64tab", laid_math_bits_deBruijn64tab), ("internal/strconv.uint64pow10", laid_internal_strconv_uint64pow10)] }
def LayoutCursorSaid : Prop := layoutCursorRow.holds Tryd.pinned (OpenSpec.ofChange layoutCursorSpec)

/-- ITS FALSE NEIGHBOUR: 'it returns false'. Refute it at one input. -/
def layoutCursorWrong : ChangeSpec := { name := "layoutCursor", fn := fun _ => fun
  | [d1, d2] => { results := [.lit (.bool false)], args := [d1, d2] }
  | _ => none }
def LayoutCursorWrongFalsely : Prop := layoutCursorRow.holds Tryd.pinned (OpenSpec.ofChange layoutCursorWrong)

/-- 'skylarklaw07.LayoutNext': WHATEVER THE INPUT: true; the input reads as it did. -/
def layoutNextSpec : ChangeSpec := { name := "layoutNext", fn := fun _ => fun
  | [d1, d2, d3] => { results := [.lit (.bool true)], args := [d1, d2, d3] }
  | _ => none }
def layoutNextRow : OpenClaim := { program := "ytbkehjgnaogcdaadoor", sum := "07278eb576bce60043d0af3de6801c5dee628929ccce2926bf68b81b2e76097e", func := "skylark/skylarklaw07.LayoutNext", spec := "layoutNext", unfollowed := true, recurses := true, named := ["internal/strconv.uint64pow10", "math/bits.deBruijn32tab", "math/bits.deBruijn64tab"], apart := false, laid := [("math/bits.deBruijn32tab", laid_math_bits_deBruijn32tab), ("math/bits.deBruijn64tab", laid_math_bits_deBruijn64tab), ("internal/strconv.uint64pow10", laid_internal_strconv_uint64pow10)] }
def LayoutNextSaid : Prop := layoutNextRow.holds Tryd.pinned (OpenSpec.ofChange layoutNextSpec)

/-- ITS FALSE NEIGHBOUR: 'it returns false'. Refute it at one input. -/
def layoutNextWrong : ChangeSpec := { name := "layoutNext", fn := fun _ => fun
  | [d1, d2, d3] => { results := [.lit (.bool false)], args := [d1, d2, d3] }
  | _ => none }
def LayoutNextWrongFalsely : Prop := layoutNextRow.holds Tryd.pinned (OpenSpec.ofChange layoutNextWrong)

/-- 'skylarklaw07.LayoutOnce': WHATEVER THE INPUT: true; the input reads as it did. -/
def layoutOnceSpec : ChangeSpec := { name := "layoutOnce", fn := fun _ => fun
  | [d1, d2, d3] => { results := [.lit (.bool true)], args := [d1, d2, d3] }
  | _ => none }
def layoutOnceRow : OpenClaim := { program := "ytbkehjgnaogcdaadoor", sum := "07278eb576bce60043d0af3de6801c5dee628929ccce2926bf68b81b2e76097e", func := "skylark/skylarklaw07.LayoutOnce", spec := "layoutOnce", unfollowed := true, recurses := true, named := ["internal/strconv.uint64pow10", "math/bits.deBruijn32tab", "math/bits.deBruijn64tab"], apart := false, laid := [("math/bits.deBruijn32tab", laid_math_bits_deBruijn32tab), ("math/bits.deBruijn64tab", laid_math_bits_deBruijn64tab), ("internal/strconv.uint64pow10", laid_internal_strconv_uint64pow10)] }
def LayoutOnceSaid : Prop := layoutOnceRow.holds Tryd.pinned (OpenSpec.ofChange layoutOnceSpec)

/-- ITS FALSE NEIGHBOUR: 'it returns false'. Refute it at one input. -/
def layoutOnceWrong : ChangeSpec := { name := "layoutOnce", fn := fun _ => fun
  | [d1, d2, d3] => { results := [.lit (.bool false)], args := [d1, d2, d3] }
  | _ => none }
def LayoutOnceWrongFalsely : Prop := layoutOnceRow.holds Tryd.pinned (OpenSpec.ofChange layoutOnceWrong)

/-- 'skylarklaw24.ClientEnds': WHATEVER THE INPUT: true; the input reads as it did. -/
def clientEndsSpec : ChangeSpec := { name := "clientEnds", fn := fun _ => fun
  | [d1, d2, d3] => { results := [.lit (.bool true)], args := [d1, d2, d3] }
  | _ => none }
def clientEndsRow : OpenClaim := { program := "ytbkehjgnaogcdaadoor", sum := "07278eb576bce60043d0af3de6801c5dee628929ccce2926bf68b81b2e76097e", func := "skylark/skylarklaw24.ClientEnds", spec := "clientEnds", unfollowed := true, recurses := true, named := ["internal/strconv.uint64pow10", "math/bits.deBruijn32tab", "math/bits.deBruijn64tab"], apart := false, laid := [("math/bits.deBruijn32tab", laid_math_bits_deBruijn32tab), ("math/bits.deBruijn64tab", laid_math_bits_deBruijn64tab), ("internal/strconv.uint64pow10", laid_internal_strconv_uint64pow10)] }
def ClientEndsSaid : Prop := clientEndsRow.holds Tryd.pinned (OpenSpec.ofChange clientEndsSpec)

/-- ITS FALSE NEIGHBOUR: 'it returns false'. Refute it at one input. -/
def clientEndsWrong : ChangeSpec := { name := "clientEnds", fn := fun _ => fun
  | [d1, d2, d3] => { results := [.lit (.bool false)], args := [d1, d2, d3] }
  | _ => none }
def ClientEndsWrongFalsely : Prop := clientEndsRow.holds Tryd.pinned (OpenSpec.ofChange clientEndsWrong)

/-- 'skylarklaw18.AdminOwns': WHATEVER THE INPUT: true; the input reads as it did. -/
def adminOwnsSpec : ChangeSpec := { name := "adminOwns", fn := fun _ => fun
  | [d1, d2] => { results := [.lit (.bool true)], args := [d1, d2] }
  | _ => none }
def adminOwnsRow : OpenClaim := { program := "ytbkehjgnaogcdaadoor", sum := "07278eb576bce60043d0af3de6801c5dee628929ccce2926bf68b81b2e76097e", func := "skylark/skylarklaw18.AdminOwns", spec := "adminOwns", unfollowed := true, recurses := true, named := ["internal/strconv.uint64pow10", "math/bits.deBruijn32tab", "math/bits.deBruijn64tab"], apart := false, laid := [("math/bits.deBruijn32tab", laid_math_bits_deBruijn32tab), ("math/bits.deBruijn64tab", laid_math_bits_deBruijn64tab), ("internal/strconv.uint64pow10", laid_internal_strconv_uint64pow10)] }
def AdminOwnsSaid : Prop := adminOwnsRow.holds Tryd.pinned (OpenSpec.ofChange adminOwnsSpec)

/-- ITS FALSE NEIGHBOUR: 'it returns false'. Refute it at one input. -/
def adminOwnsWrong : ChangeSpec := { name := "adminOwns", fn := fun _ => fun
  | [d1, d2] => { results := [.lit (.bool false)], args := [d1, d2] }
  | _ => none }
def AdminOwnsWrongFalsely : Prop := adminOwnsRow.holds Tryd.pinned (OpenSpec.ofChange adminOwnsWrong)

/-- 'skylarklaw18.AdminRefuses': WHATEVER THE INPUT: true; the input reads as it did. -/
def adminRefusesSpec : ChangeSpec := { name := "adminRefuses", fn := fun _ => fun
  | [d1, d2, d3] => { results := [.lit (.bool true)], args := [d1, d2, d3] }
  | _ => none }
def adminRefusesRow : OpenClaim := { program := "ytbkehjgnaogcdaadoor", sum := "07278eb576bce60043d0af3de6801c5dee628929ccce2926bf68b81b2e76097e", func := "skylark/skylarklaw18.AdminRefuses", spec := "adminRefuses", unfollowed := true, recurses := true, named := ["internal/strconv.uint64pow10", "math/bits.deBruijn32tab", "math/bits.deBruijn64tab"], apart := false, laid := [("math/bits.deBruijn32tab", laid_math_bits_deBruijn32tab), ("math/bits.deBruijn64tab", laid_math_bits_deBruijn64tab), ("internal/strconv.uint64pow10", laid_internal_strconv_uint64pow10)] }
def AdminRefusesSaid : Prop := adminRefusesRow.holds Tryd.pinned (OpenSpec.ofChange adminRefusesSpec)

/-- ITS FALSE NEIGHBOUR: 'it returns false'. Refute it at one input. -/
def adminRefusesWrong : ChangeSpec := { name := "adminRefuses", fn := fun _ => fun
  | [d1, d2, d3] => { results := [.lit (.bool false)], args := [d1, d2, d3] }
  | _ => none }
def AdminRefusesWrongFalsely : Prop := adminRefusesRow.holds Tryd.pinned (OpenSpec.ofChange adminRefusesWrong)

/-- 'skylarklaw18.AdminAlike': WHATEVER THE INPUT: true; the input reads as it did. -/
def adminAlikeSpec : ChangeSpec := { name := "adminAlike", fn := fun _ => fun
  | [d1, d2, d3] => { results := [.lit (.bool true)], args := [d1, d2, d3] }
  | _ => none }
def adminAlikeRow : OpenClaim := { program := "ytbkehjgnaogcdaadoor", sum := "07278eb576bce60043d0af3de6801c5dee628929ccce2926bf68b81b2e76097e", func := "skylark/skylarklaw18.AdminAlike", spec := "adminAlike", unfollowed := true, recurses := true, named := ["internal/strconv.uint64pow10", "math/bits.deBruijn32tab", "math/bits.deBruijn64tab"], apart := false, laid := [("math/bits.deBruijn32tab", laid_math_bits_deBruijn32tab), ("math/bits.deBruijn64tab", laid_math_bits_deBruijn64tab), ("internal/strconv.uint64pow10", laid_internal_strconv_uint64pow10)] }
def AdminAlikeSaid : Prop := adminAlikeRow.holds Tryd.pinned (OpenSpec.ofChange adminAlikeSpec)

/-- ITS FALSE NEIGHBOUR: 'it returns false'. Refute it at one input. -/
def adminAlikeWrong : ChangeSpec := { name := "adminAlike", fn := fun _ => fun
  | [d1, d2, d3] => { results := [.lit (.bool false)], args := [d1, d2, d3] }
  | _ => none }
def AdminAlikeWrongFalsely : Prop := adminAlikeRow.holds Tryd.pinned (OpenSpec.ofChange adminAlikeWrong)

/-- 'skylarklaw22.MoveSizes': WHATEVER THE INPUT: true; the input reads as it did. -/
def moveSizesSpec : ChangeSpec := { name := "moveSizes", fn := fun _ => fun
  | [d1, d2, d3] => { results := [.lit (.bool true)], args := [d1, d2, d3] }
  | _ => none }
def moveSizesRow : OpenClaim := { program := "ytbkehjgnaogcdaadoor", sum := "07278eb576bce60043d0af3de6801c5dee628929ccce2926bf68b81b2e76097e", func := "skylark/skylarklaw22.MoveSizes", spec := "moveSizes", inPlace := ["internal/bytealg.abigen_runtime_cmpstring"], unfollowed := true, recurses := true, named := ["internal/strconv.uint64pow10", "math/bits.deBruijn32tab", "math/bits.deBruijn64tab"], apart := false, laid := [("math/bits.deBruijn32tab", laid_math_bits_deBruijn32tab), ("math/bits.deBruijn64tab", laid_math_bits_deBruijn64tab), ("internal/strconv.uint64pow10", laid_internal_strconv_uint64pow10)] }
def MoveSizesSaid : Prop := moveSizesRow.holds Tryd.pinned (OpenSpec.ofChange moveSizesSpec)

/-- ITS FALSE NEIGHBOUR: 'it returns false'. Refute it at one input. -/
def moveSizesWrong : ChangeSpec := { name := "moveSizes", fn := fun _ => fun
  | [d1, d2, d3] => { results := [.lit (.bool false)], args := [d1, d2, d3] }
  | _ => none }
def MoveSizesWrongFalsely : Prop := moveSizesRow.holds Tryd.pinned (OpenSpec.ofChange moveSizesWrong)

/- THE SECOND FORM. 'bulk': how many values and letters a reading holds, each counted each time it is reached (what is shared counts as often as it is met; a slice's spare places count too). A statement '..UptoSaid' is the law's where the arguments, and the package variables that the reading takes, are together of bulk at most 1048576: NARROWER than '..Said'. Prove '..Said' where nothing that the law and all that it calls make is longer than what came in: it says more and counts as full. Else prove '..UptoSaid'. A law counts once. -/
mutual
def uptoBulk {H : Type} : DataW H → Nat
  | .lit (.string bytes) => bytes.length + 1
  | .lit _ => 1
  | .nil => 1
  | .ptr d => uptoBulk d + 1
  | .slice elems spare => uptoBulkAll elems + uptoBulkAll spare + 1
  | .agg parts => uptoBulkAll parts + 1
  | .iface _ d => uptoBulk d + 1
  | .map entries => uptoBulkEntries entries + 1
  | .held _ => 1
def uptoBulkAll {H : Type} : List (DataW H) → Nat
  | [] => 0
  | d :: r => uptoBulk d + uptoBulkAll r
def uptoBulkEntries {H : Type} : List (Lit × DataW H) → Nat
  | [] => 0
  | x :: r => uptoBulkEntry x + uptoBulkEntries r
def uptoBulkEntry {H : Type} : Lit × DataW H → Nat
  | (.string bytes, d) => bytes.length + uptoBulk d + 1
  | (_, d) => uptoBulk d + 1
 end
def uptoSmall : (H : Type) → List (DataW H) → Bool := fun _ ds => decide (uptoBulkAll ds ≤ 1048576)
def OpenSpec.upto (s : _root_.Go.ChangeSpec) : _root_.Go.OpenSpec := { _root_.Go.OpenSpec.ofChange s with cond := some uptoSmall }

/-- 'skylarklaw06.RingLight', WHERE WHAT IT READS IS OF BULK AT MOST 1048576: true; the input reads as it did. -/
def ringLightUptoRow : OpenClaim := { program := "ytbkehjgnaogcdaadoor", sum := "07278eb576bce60043d0af3de6801c5dee628929ccce2926bf68b81b2e76097e", func := "skylark/skylarklaw06.RingLight", spec := "ringLight", unfollowed := true, recurses := true, named := ["internal/strconv.uint64pow10", "math/bits.deBruijn32tab", "math/bits.deBruijn64tab"], apart := false, laid := [("math/bits.deBruijn32tab", laid_math_bits_deBruijn32tab), ("math/bits.deBruijn64tab", laid_math_bits_deBruijn64tab), ("internal/strconv.uint64pow10", laid_internal_strconv_uint64pow10)], narrowed := true }
def RingLightUptoSaid : Prop := ringLightUptoRow.holds Tryd.pinned (OpenSpec.upto ringLightSpec)

/-- 'skylarklaw06.RingPoints', WHERE WHAT IT READS IS OF BULK AT MOST 1048576: true; the input reads as it did. -/
def ringPointsUptoRow : OpenClaim := { program := "ytbkehjgnaogcdaadoor", sum := "07278eb576bce60043d0af3de6801c5dee628929ccce2926bf68b81b2e76097e", func := "skylark/skylarklaw06.RingPoints", spec := "ringPoints", unfollowed := true, recurses := true, named := ["internal/strconv.uint64pow10", "math/bits.deBruijn32tab", "math/bits.deBruijn64tab"], apart := false, laid := [("math/bits.deBruijn32tab", laid_math_bits_deBruijn32tab), ("math/bits.deBruijn64tab", laid_math_bits_deBruijn64tab), ("internal/strconv.uint64pow10", laid_internal_strconv_uint64pow10)], narrowed := true }
def RingPointsUptoSaid : Prop := ringPointsUptoRow.holds Tryd.pinned (OpenSpec.upto ringPointsSpec)

/-- 'skylarklaw06.RingPlaces', WHERE WHAT IT READS IS OF BULK AT MOST 1048576: true; the input reads as it did. -/
def ringPlacesUptoRow : OpenClaim := { program := "ytbkehjgnaogcdaadoor", sum := "07278eb576bce60043d0af3de6801c5dee628929ccce2926bf68b81b2e76097e", func := "skylark/skylarklaw06.RingPlaces", spec := "ringPlaces", unfollowed := true, recurses := true, named := ["internal/strconv.uint64pow10", "math/bits.deBruijn32tab", "math/bits.deBruijn64tab"], apart := false, laid := [("math/bits.deBruijn32tab", laid_math_bits_deBruijn32tab), ("math/bits.deBruijn64tab", laid_math_bits_deBruijn64tab), ("internal/strconv.uint64pow10", laid_internal_strconv_uint64pow10)], narrowed := true }
def RingPlacesUptoSaid : Prop := ringPlacesUptoRow.holds Tryd.pinned (OpenSpec.upto ringPlacesSpec)

/-- 'skylarklaw06.RingKeys', WHERE WHAT IT READS IS OF BULK AT MOST 1048576: true; the input reads as it did. -/
def ringKeysUptoRow : OpenClaim := { program := "ytbkehjgnaogcdaadoor", sum := "07278eb576bce60043d0af3de6801c5dee628929ccce2926bf68b81b2e76097e", func := "skylark/skylarklaw06.RingKeys", spec := "ringKeys", unfollowed := true, recurses := true, named := ["internal/strconv.uint64pow10", "math/bits.deBruijn32tab", "math/bits.deBruijn64tab"], apart := false, laid := [("math/bits.deBruijn32tab", laid_math_bits_deBruijn32tab), ("math/bits.deBruijn64tab", laid_math_bits_deBruijn64tab), ("internal/strconv.uint64pow10", laid_internal_strconv_uint64pow10)], narrowed := true }
def RingKeysUptoSaid : Prop := ringKeysUptoRow.holds Tryd.pinned (OpenSpec.upto ringKeysSpec)

/-- 'skylarklaw06.RingGrows', WHERE WHAT IT READS IS OF BULK AT MOST 1048576: true; the input reads as it did. -/
def ringGrowsUptoRow : OpenClaim := { program := "ytbkehjgnaogcdaadoor", sum := "07278eb576bce60043d0af3de6801c5dee628929ccce2926bf68b81b2e76097e", func := "skylark/skylarklaw06.RingGrows", spec := "ringGrows", unfollowed := true, recurses := true, named := ["internal/strconv.uint64pow10", "math/bits.deBruijn32tab", "math/bits.deBruijn64tab"], apart := false, laid := [("math/bits.deBruijn32tab", laid_math_bits_deBruijn32tab), ("math/bits.deBruijn64tab", laid_math_bits_deBruijn64tab), ("internal/strconv.uint64pow10", laid_internal_strconv_uint64pow10)], narrowed := true }
def RingGrowsUptoSaid : Prop := ringGrowsUptoRow.holds Tryd.pinned (OpenSpec.upto ringGrowsSpec)

/-- 'skylarklaw06.RingSame', WHERE WHAT IT READS IS OF BULK AT MOST 1048576: true; the input reads as it did. -/
def ringSameUptoRow : OpenClaim := { program := "ytbkehjgnaogcdaadoor", sum := "07278eb576bce60043d0af3de6801c5dee628929ccce2926bf68b81b2e76097e", func := "skylark/skylarklaw06.RingSame", spec := "ringSame", unfollowed := true, recurses := true, named := ["internal/strconv.uint64pow10", "math/bits.deBruijn32tab", "math/bits.deBruijn64tab"], apart := false, laid := [("math/bits.deBruijn32tab", laid_math_bits_deBruijn32tab), ("math/bits.deBruijn64tab", laid_math_bits_deBruijn64tab), ("internal/strconv.uint64pow10", laid_internal_strconv_uint64pow10)], narrowed := true }
def RingSameUptoSaid : Prop := ringSameUptoRow.holds Tryd.pinned (OpenSpec.upto ringSameSpec)

/-- 'skylarklaw07.LayoutChanges', WHERE WHAT IT READS IS OF BULK AT MOST 1048576: true; the input reads as it did. -/
def layoutChangesUptoRow : OpenClaim := { program := "ytbkehjgnaogcdaadoor", sum := "07278eb576bce60043d0af3de6801c5dee628929ccce2926bf68b81b2e76097e", func := "skylark/skylarklaw07.LayoutChanges", spec := "layoutChanges", unfollowed := true, recurses := true, named := ["internal/strconv.uint64pow10", "math/bits.deBruijn32tab", "math/bits.deBruijn64tab"], apart := false, laid := [("math/bits.deBruijn32tab", laid_math_bits_deBruijn32tab), ("math/bits.deBruijn64tab", laid_math_bits_deBruijn64tab), ("internal/strconv.uint64pow10", laid_internal_strconv_uint64pow10)], narrowed := true }
def LayoutChangesUptoSaid : Prop := layoutChangesUptoRow.holds Tryd.pinned (OpenSpec.upto layoutChangesSpec)

/-- 'skylarklaw07.LayoutCursor', WHERE WHAT IT READS IS OF BULK AT MOST 1048576: true; the input reads as it did. -/
def layoutCursorUptoRow : OpenClaim := { program := "ytbkehjgnaogcdaadoor", sum := "07278eb576bce60043d0af3de6801c5dee628929ccce2926bf68b81b2e76097e", func := "skylark/skylarklaw07.LayoutCursor", spec := "layoutCursor", unfollowed := true, recurses := true, named := ["internal/strconv.uint64pow10", "math/bits.deBruijn32tab", "math/bits.deBruijn64tab"], apart := false, laid := [("math/bits.deBruijn32tab", laid_math_bits_deBruijn32tab), ("math/bits.deBruijn64tab", laid_math_bits_deBruijn64tab), ("internal/strconv.uint64pow10", laid_internal_strconv_uint64pow10)], narrowed := true }
def LayoutCursorUptoSaid : Prop := layoutCursorUptoRow.holds Tryd.pinned (OpenSpec.upto layoutCursorSpec)

/-- 'skylarklaw07.LayoutNext', WHERE WHAT IT READS IS OF BULK AT MOST 1048576: true; the input reads as it did. -/
def layoutNextUptoRow : OpenClaim := { program := "ytbkehjgnaogcdaadoor", sum := "07278eb576bce60043d0af3de6801c5dee628929ccce2926bf68b81b2e76097e", func := "skylark/skylarklaw07.LayoutNext", spec := "layoutNext", unfollowed := true, recurses := true, named := ["internal/strconv.uint64pow10", "math/bits.deBruijn32tab", "math/bits.deBruijn64tab"], apart := false, laid := [("math/bits.deBruijn32tab", laid_math_bits_deBruijn32tab), ("math/bits.deBruijn64tab", laid_math_bits_deBruijn64tab), ("internal/strconv.uint64pow10", laid_internal_strconv_uint64pow10)], narrowed := true }
def LayoutNextUptoSaid : Prop := layoutNextUptoRow.holds Tryd.pinned (OpenSpec.upto layoutNextSpec)

/-- 'skylarklaw07.LayoutOnce', WHERE WHAT IT READS IS OF BULK AT MOST 1048576: true; the input reads as it did. -/
def layoutOnceUptoRow : OpenClaim := { program := "ytbkehjgnaogcdaadoor", sum := "07278eb576bce60043d0af3de6801c5dee628929ccce2926bf68b81b2e76097e", func := "skylark/skylarklaw07.LayoutOnce", spec := "layoutOnce", unfollowed := true, recurses := true, named := ["internal/strconv.uint64pow10", "math/bits.deBruijn32tab", "math/bits.deBruijn64tab"], apart := false, laid := [("math/bits.deBruijn32tab", laid_math_bits_deBruijn32tab), ("math/bits.deBruijn64tab", laid_math_bits_deBruijn64tab), ("internal/strconv.uint64pow10", laid_internal_strconv_uint64pow10)], narrowed := true }
def LayoutOnceUptoSaid : Prop := layoutOnceUptoRow.holds Tryd.pinned (OpenSpec.upto layoutOnceSpec)

/-- 'skylarklaw24.ClientEnds', WHERE WHAT IT READS IS OF BULK AT MOST 1048576: true; the input reads as it did. -/
def clientEndsUptoRow : OpenClaim := { program := "ytbkehjgnaogcdaadoor", sum := "07278eb576bce60043d0af3de6801c5dee628929ccce2926bf68b81b2e76097e", func := "skylark/skylarklaw24.ClientEnds", spec := "clientEnds", unfollowed := true, recurses := true, named := ["internal/strconv.uint64pow10", "math/bits.deBruijn32tab", "math/bits.deBruijn64tab"], apart := false, laid := [("math/bits.deBruijn32tab", laid_math_bits_deBruijn32tab), ("math/bits.deBruijn64tab", laid_math_bits_deBruijn64tab), ("internal/strconv.uint64pow10", laid_internal_strconv_uint64pow10)], narrowed := true }
def ClientEndsUptoSaid : Prop := clientEndsUptoRow.holds Tryd.pinned (OpenSpec.upto clientEndsSpec)

/-- 'skylarklaw18.AdminOwns', WHERE WHAT IT READS IS OF BULK AT MOST 1048576: true; the input reads as it did. -/
def adminOwnsUptoRow : OpenClaim := { program := "ytbkehjgnaogcdaadoor", sum := "07278eb576bce60043d0af3de6801c5dee628929ccce2926bf68b81b2e76097e", func := "skylark/skylarklaw18.AdminOwns", spec := "adminOwns", unfollowed := true, recurses := true, named := ["internal/strconv.uint64pow10", "math/bits.deBruijn32tab", "math/bits.deBruijn64tab"], apart := false, laid := [("math/bits.deBruijn32tab", laid_math_bits_deBruijn32tab), ("math/bits.deBruijn64tab", laid_math_bits_deBruijn64tab), ("internal/strconv.uint64pow10", laid_internal_strconv_uint64pow10)], narrowed := true }
def AdminOwnsUptoSaid : Prop := adminOwnsUptoRow.holds Tryd.pinned (OpenSpec.upto adminOwnsSpec)

/-- 'skylarklaw18.AdminRefuses', WHERE WHAT IT READS IS OF BULK AT MOST 1048576: true; the input reads as it did. -/
def adminRefusesUptoRow : OpenClaim := { program := "ytbkehjgnaogcdaadoor", sum := "07278eb576bce60043d0af3de6801c5dee628929ccce2926bf68b81b2e76097e", func := "skylark/skylarklaw18.AdminRefuses", spec := "adminRefuses", unfollowed := true, recurses := true, named := ["internal/strconv.uint64pow10", "math/bits.deBruijn32tab", "math/bits.deBruijn64tab"], apart := false, laid := [("math/bits.deBruijn32tab", laid_math_bits_deBruijn32tab), ("math/bits.deBruijn64tab", laid_math_bits_deBruijn64tab), ("internal/strconv.uint64pow10", laid_internal_strconv_uint64pow10)], narrowed := true }
def AdminRefusesUptoSaid : Prop := adminRefusesUptoRow.holds Tryd.pinned (OpenSpec.upto adminRefusesSpec)

/-- 'skylarklaw18.AdminAlike', WHERE WHAT IT READS IS OF BULK AT MOST 1048576: true; the input reads as it did. -/
def adminAlikeUptoRow : OpenClaim := { program := "ytbkehjgnaogcdaadoor", sum := "07278eb576bce60043d0af3de6801c5dee628929ccce2926bf68b81b2e76097e", func := "skylark/skylarklaw18.AdminAlike", spec := "adminAlike", unfollowed := true, recurses := true, named := ["internal/strconv.uint64pow10", "math/bits.deBruijn32tab", "math/bits.deBruijn64tab"], apart := false, laid := [("math/bits.deBruijn32tab", laid_math_bits_deBruijn32tab), ("math/bits.deBruijn64tab", laid_math_bits_deBruijn64tab), ("internal/strconv.uint64pow10", laid_internal_strconv_uint64pow10)], narrowed := true }
def AdminAlikeUptoSaid : Prop := adminAlikeUptoRow.holds Tryd.pinned (OpenSpec.upto adminAlikeSpec)

/-- 'skylarklaw22.MoveSizes', WHERE WHAT IT READS IS OF BULK AT MOST 1048576: true; the input reads as it did. -/
def moveSizesUptoRow : OpenClaim := { program := "ytbkehjgnaogcdaadoor", sum := "07278eb576bce60043d0af3de6801c5dee628929ccce2926bf68b81b2e76097e", func := "skylark/skylarklaw22.MoveSizes", spec := "moveSizes", inPlace := ["internal/bytealg.abigen_runtime_cmpstring"], unfollowed := true, recurses := true, named := ["internal/strconv.uint64pow10", "math/bits.deBruijn32tab", "math/bits.deBruijn64tab"], apart := false, laid := [("math/bits.deBruijn32tab", laid_math_bits_deBruijn32tab), ("math/bits.deBruijn64tab", laid_math_bits_deBruijn64tab), ("internal/strconv.uint64pow10", laid_internal_strconv_uint64pow10)], narrowed := true }
def MoveSizesUptoSaid : Prop := moveSizesUptoRow.holds Tryd.pinned (OpenSpec.upto moveSizesSpec)

end Rows
end Go.Proofs.YtbkehjgnaogcdaaDoor
