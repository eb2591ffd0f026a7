import Derived.Test.YtmfaafdkpahjlaaEpaE
import Derived.Test.YtmfaafdkpahjlaaProg
set_option linter.all false
namespace Go.Proofs
@[go_sem] theorem Try.und2 : Go.Abs.und Try.prog 2 = .int .i64 := by kernel_rfl
@[go_sem] theorem Try.siz2 : Go.Abs.siz Try.prog 2 = some 1 := by kernel_rfl
@[go_sem] theorem Try.byt2 : Go.Abs.byt Try.prog 2 = some 8 := by kernel_rfl
@[go_sem] theorem Try.azero2 : Go.Abs.aZero Try.prog 2 = some (1, .v (.int .i64 0)) := by kernel_rfl
@[go_sem] theorem Try.zer2 : Go.Abs.zer Try.prog 2 = some (.v (.int .i64 0)) := by kernel_rfl
@[go_sem] theorem Try.plainSrc2 : Go.Abs.plainSrc Try.prog 2 = false := by kernel_rfl
@[go_sem] theorem Try.und3 : Go.Abs.und Try.prog 3 = .int .i64 := by kernel_rfl
@[go_sem] theorem Try.siz3 : Go.Abs.siz Try.prog 3 = some 1 := by kernel_rfl
@[go_sem] theorem Try.byt3 : Go.Abs.byt Try.prog 3 = some 8 := by kernel_rfl
@[go_sem] theorem Try.azero3 : Go.Abs.aZero Try.prog 3 = some (1, .v (.int .i64 0)) := by kernel_rfl
@[go_sem] theorem Try.zer3 : Go.Abs.zer Try.prog 3 = some (.v (.int .i64 0)) := by kernel_rfl
@[go_sem] theorem Try.plainSrc3 : Go.Abs.plainSrc Try.prog 3 = false := by kernel_rfl
@[go_sem] theorem Try.und4 : Go.Abs.und Try.prog 4 = .bool := by kernel_rfl
@[go_sem] theorem Try.siz4 : Go.Abs.siz Try.prog 4 = some 1 := by kernel_rfl
@[go_sem] theorem Try.byt4 : Go.Abs.byt Try.prog 4 = some 1 := by kernel_rfl
@[go_sem] theorem Try.azero4 : Go.Abs.aZero Try.prog 4 = some (1, .v (.bool false)) := by kernel_rfl
@[go_sem] theorem Try.zer4 : Go.Abs.zer Try.prog 4 = some (.v (.bool false)) := by kernel_rfl
@[go_sem] theorem Try.plainSrc4 : Go.Abs.plainSrc Try.prog 4 = false := by kernel_rfl
@[go_sem] theorem Try.und5 : Go.Abs.und Try.prog 5 = .int .u8 := by kernel_rfl
@[go_sem] theorem Try.siz5 : Go.Abs.siz Try.prog 5 = some 1 := by kernel_rfl
@[go_sem] theorem Try.byt5 : Go.Abs.byt Try.prog 5 = some 1 := by kernel_rfl
@[go_sem] theorem Try.azero5 : Go.Abs.aZero Try.prog 5 = some (1, .v (.int .u8 0)) := by kernel_rfl
@[go_sem] theorem Try.zer5 : Go.Abs.zer Try.prog 5 = some (.v (.int .u8 0)) := by kernel_rfl
@[go_sem] theorem Try.plainSrc5 : Go.Abs.plainSrc Try.prog 5 = false := by kernel_rfl
@[go_sem] theorem Try.und6 : Go.Abs.und Try.prog 6 = .int .u8 := by kernel_rfl
@[go_sem] theorem Try.siz6 : Go.Abs.siz Try.prog 6 = some 1 := by kernel_rfl
@[go_sem] theorem Try.byt6 : Go.Abs.byt Try.prog 6 = some 1 := by kernel_rfl
@[go_sem] theorem Try.azero6 : Go.Abs.aZero Try.prog 6 = some (1, .v (.int .u8 0)) := by kernel_rfl
@[go_sem] theorem Try.zer6 : Go.Abs.zer Try.prog 6 = some (.v (.int .u8 0)) := by kernel_rfl
@[go_sem] theorem Try.plainSrc6 : Go.Abs.plainSrc Try.prog 6 = false := by kernel_rfl
@[go_sem] theorem Try.und7 : Go.Abs.und Try.prog 7 = .struct #[⟨ "x", 2, 0, false, "", "runtime", 0⟩, ⟨ "y", 3, 1, false, "", "runtime", 8⟩, ⟨ "signed", 4, 2, false, "", "runtime", 16⟩, ⟨ "code", 6, 3, false, "", "runtime", 17⟩] := by kernel_rfl
@[go_sem] theorem Try.siz7 : Go.Abs.siz Try.prog 7 = some 4 := by kernel_rfl
@[go_sem] theorem Try.byt7 : Go.Abs.byt Try.prog 7 = some 24 := by kernel_rfl
@[go_sem] theorem Try.azero7 : Go.Abs.aZero Try.prog 7 = some (4, .agg [.v (.int .i64 0), .v (.int .i64 0), .v (.bool false), .v (.int .u8 0)]) := by kernel_rfl
@[go_sem] theorem Try.zer7 : Go.Abs.zer Try.prog 7 = some (.agg [.v (.int .i64 0), .v (.int .i64 0), .v (.bool false), .v (.int .u8 0)]) := by kernel_rfl
@[go_sem] theorem Try.plainSrc7 : Go.Abs.plainSrc Try.prog 7 = false := by kernel_rfl
@[go_sem] theorem Try.fld7_0 : Go.Abs.fld Try.prog 7 0 = some (0, 1, false) := by kernel_rfl
@[go_sem] theorem Try.fld7_1 : Go.Abs.fld Try.prog 7 1 = some (1, 1, false) := by kernel_rfl
@[go_sem] theorem Try.fld7_2 : Go.Abs.fld Try.prog 7 2 = some (2, 1, false) := by kernel_rfl
@[go_sem] theorem Try.fld7_3 : Go.Abs.fld Try.prog 7 3 = some (3, 1, false) := by kernel_rfl
@[go_sem] theorem Try.und8 : Go.Abs.und Try.prog 8 = .struct #[⟨ "x", 2, 0, false, "", "runtime", 0⟩, ⟨ "y", 3, 1, false, "", "runtime", 8⟩, ⟨ "signed", 4, 2, false, "", "runtime", 16⟩, ⟨ "code", 6, 3, false, "", "runtime", 17⟩] := by kernel_rfl
@[go_sem] theorem Try.siz8 : Go.Abs.siz Try.prog 8 = some 4 := by kernel_rfl
@[go_sem] theorem Try.byt8 : Go.Abs.byt Try.prog 8 = some 24 := by kernel_rfl
@[go_sem] theorem Try.azero8 : Go.Abs.aZero Try.prog 8 = some (4, .agg [.v (.int .i64 0), .v (.int .i64 0), .v (.bool false), .v (.int .u8 0)]) := by kernel_rfl
@[go_sem] theorem Try.zer8 : Go.Abs.zer Try.prog 8 = some (.agg [.v (.int .i64 0), .v (.int .i64 0), .v (.bool false), .v (.int .u8 0)]) := by kernel_rfl
@[go_sem] theorem Try.plainSrc8 : Go.Abs.plainSrc Try.prog 8 = false := by kernel_rfl
@[go_sem] theorem Try.fld8_0 : Go.Abs.fld Try.prog 8 0 = some (0, 1, false) := by kernel_rfl
@[go_sem] theorem Try.fld8_1 : Go.Abs.fld Try.prog 8 1 = some (1, 1, false) := by kernel_rfl
@[go_sem] theorem Try.fld8_2 : Go.Abs.fld Try.prog 8 2 = some (2, 1, false) := by kernel_rfl
@[go_sem] theorem Try.fld8_3 : Go.Abs.fld Try.prog 8 3 = some (3, 1, false) := by kernel_rfl
@[go_sem] theorem Try.und9 : Go.Abs.und Try.prog 9 = .string := by kernel_rfl
@[go_sem] theorem Try.siz9 : Go.Abs.siz Try.prog 9 = some 1 := by kernel_rfl
@[go_sem] theorem Try.byt9 : Go.Abs.byt Try.prog 9 = some 16 := by kernel_rfl
@[go_sem] theorem Try.azero9 : Go.Abs.aZero Try.prog 9 = some (1, .v (.string ByteArray.empty)) := by kernel_rfl
@[go_sem] theorem Try.zer9 : Go.Abs.zer Try.prog 9 = some (.v (.string ByteArray.empty)) := by kernel_rfl
@[go_sem] theorem Try.plainSrc9 : Go.Abs.plainSrc Try.prog 9 = true := by kernel_rfl
@[go_sem] theorem Try.und10 : Go.Abs.und Try.prog 10 = .string := by kernel_rfl
@[go_sem] theorem Try.siz10 : Go.Abs.siz Try.prog 10 = some 1 := by kernel_rfl
@[go_sem] theorem Try.byt10 : Go.Abs.byt Try.prog 10 = some 16 := by kernel_rfl
@[go_sem] theorem Try.azero10 : Go.Abs.aZero Try.prog 10 = some (1, .v (.string ByteArray.empty)) := by kernel_rfl
@[go_sem] theorem Try.zer10 : Go.Abs.zer Try.prog 10 = some (.v (.string ByteArray.empty)) := by kernel_rfl
@[go_sem] theorem Try.plainSrc10 : Go.Abs.plainSrc Try.prog 10 = true := by kernel_rfl
@[go_sem] theorem Try.und11 : Go.Abs.und Try.prog 11 = .string := by kernel_rfl
@[go_sem] theorem Try.siz11 : Go.Abs.siz Try.prog 11 = some 1 := by kernel_rfl
@[go_sem] theorem Try.byt11 : Go.Abs.byt Try.prog 11 = some 16 := by kernel_rfl
@[go_sem] theorem Try.azero11 : Go.Abs.aZero Try.prog 11 = some (1, .v (.string ByteArray.empty)) := by kernel_rfl
@[go_sem] theorem Try.zer11 : Go.Abs.zer Try.prog 11 = some (.v (.string ByteArray.empty)) := by kernel_rfl
@[go_sem] theorem Try.plainSrc11 : Go.Abs.plainSrc Try.prog 11 = true := by kernel_rfl
@[go_sem] theorem Try.und12 : Go.Abs.und Try.prog 12 = .int .u64 := by kernel_rfl
@[go_sem] theorem Try.siz12 : Go.Abs.siz Try.prog 12 = some 1 := by kernel_rfl
@[go_sem] theorem Try.byt12 : Go.Abs.byt Try.prog 12 = some 8 := by kernel_rfl
@[go_sem] theorem Try.azero12 : Go.Abs.aZero Try.prog 12 = some (1, .v (.int .u64 0)) := by kernel_rfl
@[go_sem] theorem Try.zer12 : Go.Abs.zer Try.prog 12 = some (.v (.int .u64 0)) := by kernel_rfl
@[go_sem] theorem Try.plainSrc12 : Go.Abs.plainSrc Try.prog 12 = false := by kernel_rfl
@[go_sem] theorem Try.und13 : Go.Abs.und Try.prog 13 = .struct #[⟨ "msg", 9, 0, false, "", "runtime", 0⟩, ⟨ "addr", 12, 1, false, "", "runtime", 16⟩] := by kernel_rfl
@[go_sem] theorem Try.siz13 : Go.Abs.siz Try.prog 13 = some 2 := by kernel_rfl
@[go_sem] theorem Try.byt13 : Go.Abs.byt Try.prog 13 = some 24 := by kernel_rfl
@[go_sem] theorem Try.azero13 : Go.Abs.aZero Try.prog 13 = some (2, .agg [.v (.string ByteArray.empty), .v (.int .u64 0)]) := by kernel_rfl
@[go_sem] theorem Try.zer13 : Go.Abs.zer Try.prog 13 = some (.agg [.v (.string ByteArray.empty), .v (.int .u64 0)]) := by kernel_rfl
@[go_sem] theorem Try.plainSrc13 : Go.Abs.plainSrc Try.prog 13 = false := by kernel_rfl
@[go_sem] theorem Try.fld13_0 : Go.Abs.fld Try.prog 13 0 = some (0, 1, false) := by kernel_rfl
@[go_sem] theorem Try.fld13_1 : Go.Abs.fld Try.prog 13 1 = some (1, 1, false) := by kernel_rfl
@[go_sem] theorem Try.und14 : Go.Abs.und Try.prog 14 = .struct #[⟨ "msg", 9, 0, false, "", "runtime", 0⟩, ⟨ "addr", 12, 1, false, "", "runtime", 16⟩] := by kernel_rfl
@[go_sem] theorem Try.siz14 : Go.Abs.siz Try.prog 14 = some 2 := by kernel_rfl
@[go_sem] theorem Try.byt14 : Go.Abs.byt Try.prog 14 = some 24 := by kernel_rfl
@[go_sem] theorem Try.azero14 : Go.Abs.aZero Try.prog 14 = some (2, .agg [.v (.string ByteArray.empty), .v (.int .u64 0)]) := by kernel_rfl
@[go_sem] theorem Try.zer14 : Go.Abs.zer Try.prog 14 = some (.agg [.v (.string ByteArray.empty), .v (.int .u64 0)]) := by kernel_rfl
@[go_sem] theorem Try.plainSrc14 : Go.Abs.plainSrc Try.prog 14 = false := by kernel_rfl
@[go_sem] theorem Try.fld14_0 : Go.Abs.fld Try.prog 14 0 = some (0, 1, false) := by kernel_rfl
@[go_sem] theorem Try.fld14_1 : Go.Abs.fld Try.prog 14 1 = some (1, 1, false) := by kernel_rfl
@[go_sem] theorem Try.und15 : Go.Abs.und Try.prog 15 = .pointer 190 := by kernel_rfl
@[go_sem] theorem Try.siz15 : Go.Abs.siz Try.prog 15 = some 1 := by kernel_rfl
@[go_sem] theorem Try.byt15 : Go.Abs.byt Try.prog 15 = some 8 := by kernel_rfl
@[go_sem] theorem Try.azero15 : Go.Abs.aZero Try.prog 15 = some (1, .v (.pointer none)) := by kernel_rfl
@[go_sem] theorem Try.zer15 : Go.Abs.zer Try.prog 15 = some (.v (.pointer none)) := by kernel_rfl
@[go_sem] theorem Try.plainSrc15 : Go.Abs.plainSrc Try.prog 15 = false := by kernel_rfl
@[go_sem] theorem Try.und16 : Go.Abs.und Try.prog 16 = .pointer 193 := by kernel_rfl
@[go_sem] theorem Try.siz16 : Go.Abs.siz Try.prog 16 = some 1 := by kernel_rfl
@[go_sem] theorem Try.byt16 : Go.Abs.byt Try.prog 16 = some 8 := by kernel_rfl
@[go_sem] theorem Try.azero16 : Go.Abs.aZero Try.prog 16 = some (1, .v (.pointer none)) := by kernel_rfl
@[go_sem] theorem Try.zer16 : Go.Abs.zer Try.prog 16 = some (.v (.pointer none)) := by kernel_rfl
@[go_sem] theorem Try.plainSrc16 : Go.Abs.plainSrc Try.prog 16 = false := by kernel_rfl
@[go_sem] theorem Try.und17 : Go.Abs.und Try.prog 17 = .pointer 202 := by kernel_rfl
@[go_sem] theorem Try.siz17 : Go.Abs.siz Try.prog 17 = some 1 := by kernel_rfl
@[go_sem] theorem Try.byt17 : Go.Abs.byt Try.prog 17 = some 8 := by kernel_rfl
@[go_sem] theorem Try.azero17 : Go.Abs.aZero Try.prog 17 = some (1, .v (.pointer none)) := by kernel_rfl
@[go_sem] theorem Try.zer17 : Go.Abs.zer Try.prog 17 = some (.v (.pointer none)) := by kernel_rfl
@[go_sem] theorem Try.plainSrc17 : Go.Abs.plainSrc Try.prog 17 = false := by kernel_rfl
@[go_sem] theorem Try.und18 : Go.Abs.und Try.prog 18 = .struct #[⟨ "typ", 17, 0, false, "", "internal/runtime/maps", 0⟩] := by kernel_rfl
@[go_sem] theorem Try.siz18 : Go.Abs.siz Try.prog 18 = some 1 := by kernel_rfl
@[go_sem] theorem Try.byt18 : Go.Abs.byt Try.prog 18 = some 8 := by kernel_rfl
@[go_sem] theorem Try.azero18 : Go.Abs.aZero Try.prog 18 = some (1, .agg [.v (.pointer none)]) := by kernel_rfl
@[go_sem] theorem Try.zer18 : Go.Abs.zer Try.prog 18 = some (.agg [.v (.pointer none)]) := by kernel_rfl
@[go_sem] theorem Try.plainSrc18 : Go.Abs.plainSrc Try.prog 18 = false := by kernel_rfl
@[go_sem] theorem Try.fld18_0 : Go.Abs.fld Try.prog 18 0 = some (0, 1, false) := by kernel_rfl
@[go_sem] theorem Try.und19 : Go.Abs.und Try.prog 19 = .struct #[⟨ "typ", 17, 0, false, "", "internal/runtime/maps", 0⟩] := by kernel_rfl
@[go_sem] theorem Try.siz19 : Go.Abs.siz Try.prog 19 = some 1 := by kernel_rfl
@[go_sem] theorem Try.byt19 : Go.Abs.byt Try.prog 19 = some 8 := by kernel_rfl
@[go_sem] theorem Try.azero19 : Go.Abs.aZero Try.prog 19 = some (1, .agg [.v (.pointer none)]) := by kernel_rfl
@[go_sem] theorem Try.zer19 : Go.Abs.zer Try.prog 19 = some (.agg [.v (.pointer none)]) := by kernel_rfl
@[go_sem] theorem Try.plainSrc19 : Go.Abs.plainSrc Try.prog 19 = false := by kernel_rfl
@[go_sem] theorem Try.fld19_0 : Go.Abs.fld Try.prog 19 0 = some (0, 1, false) := by kernel_rfl
@[go_sem] theorem Try.und21 : Go.Abs.und Try.prog 21 = .int .i32 := by kernel_rfl
@[go_sem] theorem Try.siz21 : Go.Abs.siz Try.prog 21 = some 1 := by kernel_rfl
@[go_sem] theorem Try.byt21 : Go.Abs.byt Try.prog 21 = some 4 := by kernel_rfl
@[go_sem] theorem Try.azero21 : Go.Abs.aZero Try.prog 21 = some (1, .v (.int .i32 0)) := by kernel_rfl
@[go_sem] theorem Try.zer21 : Go.Abs.zer Try.prog 21 = some (.v (.int .i32 0)) := by kernel_rfl
@[go_sem] theorem Try.plainSrc21 : Go.Abs.plainSrc Try.prog 21 = false := by kernel_rfl
@[go_sem] theorem Try.und22 : Go.Abs.und Try.prog 22 = .slice 33 := by kernel_rfl
@[go_sem] theorem Try.siz22 : Go.Abs.siz Try.prog 22 = some 1 := by kernel_rfl
@[go_sem] theorem Try.byt22 : Go.Abs.byt Try.prog 22 = some 24 := by kernel_rfl
@[go_sem] theorem Try.azero22 : Go.Abs.aZero Try.prog 22 = some (1, .v (.slice none 0 0)) := by kernel_rfl
@[go_sem] theorem Try.zer22 : Go.Abs.zer Try.prog 22 = some (.v (.slice none 0 0)) := by kernel_rfl
@[go_sem] theorem Try.plainSrc22 : Go.Abs.plainSrc Try.prog 22 = true := by kernel_rfl
@[go_sem] theorem Try.und24 : Go.Abs.und Try.prog 24 = .int .u64 := by kernel_rfl
@[go_sem] theorem Try.siz24 : Go.Abs.siz Try.prog 24 = some 1 := by kernel_rfl
@[go_sem] theorem Try.byt24 : Go.Abs.byt Try.prog 24 = some 8 := by kernel_rfl
@[go_sem] theorem Try.azero24 : Go.Abs.aZero Try.prog 24 = some (1, .v (.int .u64 0)) := by kernel_rfl
@[go_sem] theorem Try.zer24 : Go.Abs.zer Try.prog 24 = some (.v (.int .u64 0)) := by kernel_rfl
@[go_sem] theorem Try.plainSrc24 : Go.Abs.plainSrc Try.prog 24 = false := by kernel_rfl
@[go_sem] theorem Try.und25 : Go.Abs.und Try.prog 25 = .pointer 80 := by kernel_rfl
@[go_sem] theorem Try.siz25 : Go.Abs.siz Try.prog 25 = some 1 := by kernel_rfl
@[go_sem] theorem Try.byt25 : Go.Abs.byt Try.prog 25 = some 8 := by kernel_rfl
@[go_sem] theorem Try.azero25 : Go.Abs.aZero Try.prog 25 = some (1, .v (.pointer none)) := by kernel_rfl
@[go_sem] theorem Try.zer25 : Go.Abs.zer Try.prog 25 = some (.v (.pointer none)) := by kernel_rfl
@[go_sem] theorem Try.plainSrc25 : Go.Abs.plainSrc Try.prog 25 = false := by kernel_rfl
@[go_sem] theorem Try.und26 : Go.Abs.und Try.prog 26 = .int .i64 := by kernel_rfl
@[go_sem] theorem Try.siz26 : Go.Abs.siz Try.prog 26 = some 1 := by kernel_rfl
@[go_sem] theorem Try.byt26 : Go.Abs.byt Try.prog 26 = some 8 := by kernel_rfl
@[go_sem] theorem Try.azero26 : Go.Abs.aZero Try.prog 26 = some (1, .v (.int .i64 0)) := by kernel_rfl
@[go_sem] theorem Try.zer26 : Go.Abs.zer Try.prog 26 = some (.v (.int .i64 0)) := by kernel_rfl
@[go_sem] theorem Try.plainSrc26 : Go.Abs.plainSrc Try.prog 26 = false := by kernel_rfl
@[go_sem] theorem Try.und29 : Go.Abs.und Try.prog 29 = .slice 37 := by kernel_rfl
@[go_sem] theorem Try.siz29 : Go.Abs.siz Try.prog 29 = some 1 := by kernel_rfl
@[go_sem] theorem Try.byt29 : Go.Abs.byt Try.prog 29 = some 24 := by kernel_rfl
@[go_sem] theorem Try.azero29 : Go.Abs.aZero Try.prog 29 = some (1, .v (.slice none 0 0)) := by kernel_rfl
@[go_sem] theorem Try.zer29 : Go.Abs.zer Try.prog 29 = some (.v (.slice none 0 0)) := by kernel_rfl
@[go_sem] theorem Try.plainSrc29 : Go.Abs.plainSrc Try.prog 29 = true := by kernel_rfl
@[go_sem] theorem Try.und31 : Go.Abs.und Try.prog 31 = .slice 3 := by kernel_rfl
@[go_sem] theorem Try.siz31 : Go.Abs.siz Try.prog 31 = some 1 := by kernel_rfl
@[go_sem] theorem Try.byt31 : Go.Abs.byt Try.prog 31 = some 24 := by kernel_rfl
@[go_sem] theorem Try.azero31 : Go.Abs.aZero Try.prog 31 = some (1, .v (.slice none 0 0)) := by kernel_rfl
@[go_sem] theorem Try.zer31 : Go.Abs.zer Try.prog 31 = some (.v (.slice none 0 0)) := by kernel_rfl
@[go_sem] theorem Try.plainSrc31 : Go.Abs.plainSrc Try.prog 31 = true := by kernel_rfl
@[go_sem] theorem Try.und32 : Go.Abs.und Try.prog 32 = .struct #[⟨ "Kind", 3, 0, false, "", "", 0⟩, ⟨ "Chain", 3, 1, false, "", "", 8⟩, ⟨ "Brick", 3, 2, false, "", "", 16⟩, ⟨ "Epoch", 3, 3, false, "", "", 24⟩, ⟨ "List", 31, 4, false, "", "", 32⟩, ⟨ "Cursor", 9, 5, false, "", "", 56⟩] := by kernel_rfl
@[go_sem] theorem Try.siz32 : Go.Abs.siz Try.prog 32 = some 6 := by kernel_rfl
@[go_sem] theorem Try.byt32 : Go.Abs.byt Try.prog 32 = some 72 := by kernel_rfl
@[go_sem] theorem Try.azero32 : Go.Abs.aZero Try.prog 32 = some (6, .agg [.v (.int .i64 0), .v (.int .i64 0), .v (.int .i64 0), .v (.int .i64 0), .v (.slice none 0 0), .v (.string ByteArray.empty)]) := by kernel_rfl
@[go_sem] theorem Try.zer32 : Go.Abs.zer Try.prog 32 = some (.agg [.v (.int .i64 0), .v (.int .i64 0), .v (.int .i64 0), .v (.int .i64 0), .v (.slice none 0 0), .v (.string ByteArray.empty)]) := by kernel_rfl
@[go_sem] theorem Try.plainSrc32 : Go.Abs.plainSrc Try.prog 32 = false := by kernel_rfl
@[go_sem] theorem Try.fld32_0 : Go.Abs.fld Try.prog 32 0 = some (0, 1, false) := by kernel_rfl
@[go_sem] theorem Try.fld32_1 : Go.Abs.fld Try.prog 32 1 = some (1, 1, false) := by kernel_rfl
@[go_sem] theorem Try.fld32_2 : Go.Abs.fld Try.prog 32 2 = some (2, 1, false) := by kernel_rfl
@[go_sem] theorem Try.fld32_3 : Go.Abs.fld Try.prog 32 3 = some (3, 1, false) := by kernel_rfl
@[go_sem] theorem Try.fld32_4 : Go.Abs.fld Try.prog 32 4 = some (4, 1, false) := by kernel_rfl
@[go_sem] theorem Try.fld32_5 : Go.Abs.fld Try.prog 32 5 = some (5, 1, false) := by kernel_rfl
@[go_sem] theorem Try.und33 : Go.Abs.und Try.prog 33 = .struct #[⟨ "Kind", 3, 0, false, "", "", 0⟩, ⟨ "Chain", 3, 1, false, "", "", 8⟩, ⟨ "Brick", 3, 2, false, "", "", 16⟩, ⟨ "Epoch", 3, 3, false, "", "", 24⟩, ⟨ "List", 31, 4, false, "", "", 32⟩, ⟨ "Cursor", 9, 5, false, "", "", 56⟩] := by kernel_rfl
@[go_sem] theorem Try.siz33 : Go.Abs.siz Try.prog 33 = some 6 := by kernel_rfl
@[go_sem] theorem Try.byt33 : Go.Abs.byt Try.prog 33 = some 72 := by kernel_rfl
@[go_sem] theorem Try.azero33 : Go.Abs.aZero Try.prog 33 = some (6, .agg [.v (.int .i64 0), .v (.int .i64 0), .v (.int .i64 0), .v (.int .i64 0), .v (.slice none 0 0), .v (.string ByteArray.empty)]) := by kernel_rfl
@[go_sem] theorem Try.zer33 : Go.Abs.zer Try.prog 33 = some (.agg [.v (.int .i64 0), .v (.int .i64 0), .v (.int .i64 0), .v (.int .i64 0), .v (.slice none 0 0), .v (.string ByteArray.empty)]) := by kernel_rfl
@[go_sem] theorem Try.plainSrc33 : Go.Abs.plainSrc Try.prog 33 = false := by kernel_rfl
@[go_sem] theorem Try.fld33_0 : Go.Abs.fld Try.prog 33 0 = some (0, 1, false) := by kernel_rfl
@[go_sem] theorem Try.fld33_1 : Go.Abs.fld Try.prog 33 1 = some (1, 1, false) := by kernel_rfl
@[go_sem] theorem Try.fld33_2 : Go.Abs.fld Try.prog 33 2 = some (2, 1, false) := by kernel_rfl
@[go_sem] theorem Try.fld33_3 : Go.Abs.fld Try.prog 33 3 = some (3, 1, false) := by kernel_rfl
@[go_sem] theorem Try.fld33_4 : Go.Abs.fld Try.prog 33 4 = some (4, 1, false) := by kernel_rfl
@[go_sem] theorem Try.fld33_5 : Go.Abs.fld Try.prog 33 5 = some (5, 1, false) := by kernel_rfl
@[go_sem] theorem Try.und35 : Go.Abs.und Try.prog 35 = .map 3 4 := by kernel_rfl
@[go_sem] theorem Try.siz35 : Go.Abs.siz Try.prog 35 = some 1 := by kernel_rfl
@[go_sem] theorem Try.byt35 : Go.Abs.byt Try.prog 35 = some 8 := by kernel_rfl
@[go_sem] theorem Try.azero35 : Go.Abs.aZero Try.prog 35 = some (1, .v (.map none)) := by kernel_rfl
@[go_sem] theorem Try.zer35 : Go.Abs.zer Try.prog 35 = some (.v (.map none)) := by kernel_rfl
@[go_sem] theorem Try.plainSrc35 : Go.Abs.plainSrc Try.prog 35 = false := by kernel_rfl
@[go_sem] theorem Try.und36 : Go.Abs.und Try.prog 36 = .struct #[⟨ "Epoch", 3, 0, false, "", "", 0⟩, ⟨ "Order", 31, 1, false, "", "", 8⟩, ⟨ "Repair", 31, 2, false, "", "", 32⟩] := by kernel_rfl
@[go_sem] theorem Try.siz36 : Go.Abs.siz Try.prog 36 = some 3 := by kernel_rfl
@[go_sem] theorem Try.byt36 : Go.Abs.byt Try.prog 36 = some 56 := by kernel_rfl
@[go_sem] theorem Try.azero36 : Go.Abs.aZero Try.prog 36 = some (3, .agg [.v (.int .i64 0), .v (.slice none 0 0), .v (.slice none 0 0)]) := by kernel_rfl
@[go_sem] theorem Try.zer36 : Go.Abs.zer Try.prog 36 = some (.agg [.v (.int .i64 0), .v (.slice none 0 0), .v (.slice none 0 0)]) := by kernel_rfl
@[go_sem] theorem Try.plainSrc36 : Go.Abs.plainSrc Try.prog 36 = false := by kernel_rfl
@[go_sem] theorem Try.fld36_0 : Go.Abs.fld Try.prog 36 0 = some (0, 1, false) := by kernel_rfl
@[go_sem] theorem Try.fld36_1 : Go.Abs.fld Try.prog 36 1 = some (1, 1, false) := by kernel_rfl
@[go_sem] theorem Try.fld36_2 : Go.Abs.fld Try.prog 36 2 = some (2, 1, false) := by kernel_rfl
@[go_sem] theorem Try.und37 : Go.Abs.und Try.prog 37 = .struct #[⟨ "Epoch", 3, 0, false, "", "", 0⟩, ⟨ "Order", 31, 1, false, "", "", 8⟩, ⟨ "Repair", 31, 2, false, "", "", 32⟩] := by kernel_rfl
@[go_sem] theorem Try.siz37 : Go.Abs.siz Try.prog 37 = some 3 := by kernel_rfl
@[go_sem] theorem Try.byt37 : Go.Abs.byt Try.prog 37 = some 56 := by kernel_rfl
@[go_sem] theorem Try.azero37 : Go.Abs.aZero Try.prog 37 = some (3, .agg [.v (.int .i64 0), .v (.slice none 0 0), .v (.slice none 0 0)]) := by kernel_rfl
@[go_sem] theorem Try.zer37 : Go.Abs.zer Try.prog 37 = some (.agg [.v (.int .i64 0), .v (.slice none 0 0), .v (.slice none 0 0)]) := by kernel_rfl
@[go_sem] theorem Try.plainSrc37 : Go.Abs.plainSrc Try.prog 37 = false := by kernel_rfl
@[go_sem] theorem Try.fld37_0 : Go.Abs.fld Try.prog 37 0 = some (0, 1, false) := by kernel_rfl
@[go_sem] theorem Try.fld37_1 : Go.Abs.fld Try.prog 37 1 = some (1, 1, false) := by kernel_rfl
@[go_sem] theorem Try.fld37_2 : Go.Abs.fld Try.prog 37 2 = some (2, 1, false) := by kernel_rfl
@[go_sem] theorem Try.und49 : Go.Abs.und Try.prog 49 = .slice 57 := by kernel_rfl
@[go_sem] theorem Try.siz49 : Go.Abs.siz Try.prog 49 = some 1 := by kernel_rfl
@[go_sem] theorem Try.byt49 : Go.Abs.byt Try.prog 49 = some 24 := by kernel_rfl
@[go_sem] theorem Try.azero49 : Go.Abs.aZero Try.prog 49 = some (1, .v (.slice none 0 0)) := by kernel_rfl
@[go_sem] theorem Try.zer49 : Go.Abs.zer Try.prog 49 = some (.v (.slice none 0 0)) := by kernel_rfl
@[go_sem] theorem Try.plainSrc49 : Go.Abs.plainSrc Try.prog 49 = true := by kernel_rfl
@[go_sem] theorem Try.und50 : Go.Abs.und Try.prog 50 = .slice 65 := by kernel_rfl
@[go_sem] theorem Try.siz50 : Go.Abs.siz Try.prog 50 = some 1 := by kernel_rfl
@[go_sem] theorem Try.byt50 : Go.Abs.byt Try.prog 50 = some 24 := by kernel_rfl
@[go_sem] theorem Try.azero50 : Go.Abs.aZero Try.prog 50 = some (1, .v (.slice none 0 0)) := by kernel_rfl
@[go_sem] theorem Try.zer50 : Go.Abs.zer Try.prog 50 = some (.v (.slice none 0 0)) := by kernel_rfl
@[go_sem] theorem Try.plainSrc50 : Go.Abs.plainSrc Try.prog 50 = true := by kernel_rfl
@[go_sem] theorem Try.und51 : Go.Abs.und Try.prog 51 = .struct #[⟨ "Sizes", 49, 0, false, "", "", 0⟩, ⟨ "Live", 50, 1, false, "", "", 24⟩, ⟨ "Percent", 3, 2, false, "", "", 48⟩] := by kernel_rfl
@[go_sem] theorem Try.siz51 : Go.Abs.siz Try.prog 51 = some 3 := by kernel_rfl
@[go_sem] theorem Try.byt51 : Go.Abs.byt Try.prog 51 = some 56 := by kernel_rfl
@[go_sem] theorem Try.azero51 : Go.Abs.aZero Try.prog 51 = some (3, .agg [.v (.slice none 0 0), .v (.slice none 0 0), .v (.int .i64 0)]) := by kernel_rfl
@[go_sem] theorem Try.zer51 : Go.Abs.zer Try.prog 51 = some (.agg [.v (.slice none 0 0), .v (.slice none 0 0), .v (.int .i64 0)]) := by kernel_rfl
@[go_sem] theorem Try.plainSrc51 : Go.Abs.plainSrc Try.prog 51 = false := by kernel_rfl
@[go_sem] theorem Try.fld51_0 : Go.Abs.fld Try.prog 51 0 = some (0, 1, false) := by kernel_rfl
@[go_sem] theorem Try.fld51_1 : Go.Abs.fld Try.prog 51 1 = some (1, 1, false) := by kernel_rfl
@[go_sem] theorem Try.fld51_2 : Go.Abs.fld Try.prog 51 2 = some (2, 1, false) := by kernel_rfl
@[go_sem] theorem Try.und52 : Go.Abs.und Try.prog 52 = .struct #[⟨ "Sizes", 49, 0, false, "", "", 0⟩, ⟨ "Live", 50, 1, false, "", "", 24⟩, ⟨ "Percent", 3, 2, false, "", "", 48⟩] := by kernel_rfl
@[go_sem] theorem Try.siz52 : Go.Abs.siz Try.prog 52 = some 3 := by kernel_rfl
@[go_sem] theorem Try.byt52 : Go.Abs.byt Try.prog 52 = some 56 := by kernel_rfl
@[go_sem] theorem Try.azero52 : Go.Abs.aZero Try.prog 52 = some (3, .agg [.v (.slice none 0 0), .v (.slice none 0 0), .v (.int .i64 0)]) := by kernel_rfl
@[go_sem] theorem Try.zer52 : Go.Abs.zer Try.prog 52 = some (.agg [.v (.slice none 0 0), .v (.slice none 0 0), .v (.int .i64 0)]) := by kernel_rfl
@[go_sem] theorem Try.plainSrc52 : Go.Abs.plainSrc Try.prog 52 = false := by kernel_rfl
@[go_sem] theorem Try.fld52_0 : Go.Abs.fld Try.prog 52 0 = some (0, 1, false) := by kernel_rfl
@[go_sem] theorem Try.fld52_1 : Go.Abs.fld Try.prog 52 1 = some (1, 1, false) := by kernel_rfl
@[go_sem] theorem Try.fld52_2 : Go.Abs.fld Try.prog 52 2 = some (2, 1, false) := by kernel_rfl
@[go_sem] theorem Try.und56 : Go.Abs.und Try.prog 56 = .struct #[⟨ "File", 3, 0, false, "", "", 0⟩, ⟨ "Bytes", 3, 1, false, "", "", 8⟩] := by kernel_rfl
@[go_sem] theorem Try.siz56 : Go.Abs.siz Try.prog 56 = some 2 := by kernel_rfl
@[go_sem] theorem Try.byt56 : Go.Abs.byt Try.prog 56 = some 16 := by kernel_rfl
@[go_sem] theorem Try.azero56 : Go.Abs.aZero Try.prog 56 = some (2, .agg [.v (.int .i64 0), .v (.int .i64 0)]) := by kernel_rfl
@[go_sem] theorem Try.zer56 : Go.Abs.zer Try.prog 56 = some (.agg [.v (.int .i64 0), .v (.int .i64 0)]) := by kernel_rfl
@[go_sem] theorem Try.plainSrc56 : Go.Abs.plainSrc Try.prog 56 = false := by kernel_rfl
@[go_sem] theorem Try.fld56_0 : Go.Abs.fld Try.prog 56 0 = some (0, 1, false) := by kernel_rfl
@[go_sem] theorem Try.fld56_1 : Go.Abs.fld Try.prog 56 1 = some (1, 1, false) := by kernel_rfl
@[go_sem] theorem Try.und57 : Go.Abs.und Try.prog 57 = .struct #[⟨ "File", 3, 0, false, "", "", 0⟩, ⟨ "Bytes", 3, 1, false, "", "", 8⟩] := by kernel_rfl
@[go_sem] theorem Try.siz57 : Go.Abs.siz Try.prog 57 = some 2 := by kernel_rfl
@[go_sem] theorem Try.byt57 : Go.Abs.byt Try.prog 57 = some 16 := by kernel_rfl
@[go_sem] theorem Try.azero57 : Go.Abs.aZero Try.prog 57 = some (2, .agg [.v (.int .i64 0), .v (.int .i64 0)]) := by kernel_rfl
@[go_sem] theorem Try.zer57 : Go.Abs.zer Try.prog 57 = some (.agg [.v (.int .i64 0), .v (.int .i64 0)]) := by kernel_rfl
@[go_sem] theorem Try.plainSrc57 : Go.Abs.plainSrc Try.prog 57 = false := by kernel_rfl
@[go_sem] theorem Try.fld57_0 : Go.Abs.fld Try.prog 57 0 = some (0, 1, false) := by kernel_rfl
@[go_sem] theorem Try.fld57_1 : Go.Abs.fld Try.prog 57 1 = some (1, 1, false) := by kernel_rfl
@[go_sem] theorem Try.und59 : Go.Abs.und Try.prog 59 = .slice 67 := by kernel_rfl
@[go_sem] theorem Try.siz59 : Go.Abs.siz Try.prog 59 = some 1 := by kernel_rfl
@[go_sem] theorem Try.byt59 : Go.Abs.byt Try.prog 59 = some 24 := by kernel_rfl
@[go_sem] theorem Try.azero59 : Go.Abs.aZero Try.prog 59 = some (1, .v (.slice none 0 0)) := by kernel_rfl
@[go_sem] theorem Try.zer59 : Go.Abs.zer Try.prog 59 = some (.v (.slice none 0 0)) := by kernel_rfl
@[go_sem] theorem Try.plainSrc59 : Go.Abs.plainSrc Try.prog 59 = true := by kernel_rfl
@[go_sem] theorem Try.und63 : Go.Abs.und Try.prog 63 = .map 65 65 := by kernel_rfl
@[go_sem] theorem Try.siz63 : Go.Abs.siz Try.prog 63 = some 1 := by kernel_rfl
@[go_sem] theorem Try.byt63 : Go.Abs.byt Try.prog 63 = some 8 := by kernel_rfl
@[go_sem] theorem Try.azero63 : Go.Abs.aZero Try.prog 63 = some (1, .v (.map none)) := by kernel_rfl
@[go_sem] theorem Try.zer63 : Go.Abs.zer Try.prog 63 = some (.v (.map none)) := by kernel_rfl
@[go_sem] theorem Try.plainSrc63 : Go.Abs.plainSrc Try.prog 63 = false := by kernel_rfl
@[go_sem] theorem Try.und64 : Go.Abs.und Try.prog 64 = .struct #[⟨ "File", 3, 0, false, "", "", 0⟩, ⟨ "At", 3, 1, false, "", "", 8⟩, ⟨ "Long", 3, 2, false, "", "", 16⟩] := by kernel_rfl
@[go_sem] theorem Try.siz64 : Go.Abs.siz Try.prog 64 = some 3 := by kernel_rfl
@[go_sem] theorem Try.byt64 : Go.Abs.byt Try.prog 64 = some 24 := by kernel_rfl
@[go_sem] theorem Try.azero64 : Go.Abs.aZero Try.prog 64 = some (3, .agg [.v (.int .i64 0), .v (.int .i64 0), .v (.int .i64 0)]) := by kernel_rfl
@[go_sem] theorem Try.zer64 : Go.Abs.zer Try.prog 64 = some (.agg [.v (.int .i64 0), .v (.int .i64 0), .v (.int .i64 0)]) := by kernel_rfl
@[go_sem] theorem Try.plainSrc64 : Go.Abs.plainSrc Try.prog 64 = false := by kernel_rfl
@[go_sem] theorem Try.fld64_0 : Go.Abs.fld Try.prog 64 0 = some (0, 1, false) := by kernel_rfl
@[go_sem] theorem Try.fld64_1 : Go.Abs.fld Try.prog 64 1 = some (1, 1, false) := by kernel_rfl
@[go_sem] theorem Try.fld64_2 : Go.Abs.fld Try.prog 64 2 = some (2, 1, false) := by kernel_rfl
@[go_sem] theorem Try.und65 : Go.Abs.und Try.prog 65 = .struct #[⟨ "File", 3, 0, false, "", "", 0⟩, ⟨ "At", 3, 1, false, "", "", 8⟩, ⟨ "Long", 3, 2, false, "", "", 16⟩] := by kernel_rfl
@[go_sem] theorem Try.siz65 : Go.Abs.siz Try.prog 65 = some 3 := by kernel_rfl
@[go_sem] theorem Try.byt65 : Go.Abs.byt Try.prog 65 = some 24 := by kernel_rfl
@[go_sem] theorem Try.azero65 : Go.Abs.aZero Try.prog 65 = some (3, .agg [.v (.int .i64 0), .v (.int .i64 0), .v (.int .i64 0)]) := by kernel_rfl
@[go_sem] theorem Try.zer65 : Go.Abs.zer Try.prog 65 = some (.agg [.v (.int .i64 0), .v (.int .i64 0), .v (.int .i64 0)]) := by kernel_rfl
@[go_sem] theorem Try.plainSrc65 : Go.Abs.plainSrc Try.prog 65 = false := by kernel_rfl
@[go_sem] theorem Try.fld65_0 : Go.Abs.fld Try.prog 65 0 = some (0, 1, false) := by kernel_rfl
@[go_sem] theorem Try.fld65_1 : Go.Abs.fld Try.prog 65 1 = some (1, 1, false) := by kernel_rfl
@[go_sem] theorem Try.fld65_2 : Go.Abs.fld Try.prog 65 2 = some (2, 1, false) := by kernel_rfl
@[go_sem] theorem Try.und66 : Go.Abs.und Try.prog 66 = .struct #[⟨ "From", 65, 0, false, "", "", 0⟩, ⟨ "To", 65, 3, false, "", "", 24⟩] := by kernel_rfl
@[go_sem] theorem Try.siz66 : Go.Abs.siz Try.prog 66 = some 6 := by kernel_rfl
@[go_sem] theorem Try.byt66 : Go.Abs.byt Try.prog 66 = some 48 := by kernel_rfl
@[go_sem] theorem Try.azero66 : Go.Abs.aZero Try.prog 66 = some (6, .agg [.v (.int .i64 0), .v (.int .i64 0), .v (.int .i64 0), .v (.int .i64 0), .v (.int .i64 0), .v (.int .i64 0)]) := by kernel_rfl
@[go_sem] theorem Try.zer66 : Go.Abs.zer Try.prog 66 = some (.agg [.v (.int .i64 0), .v (.int .i64 0), .v (.int .i64 0), .v (.int .i64 0), .v (.int .i64 0), .v (.int .i64 0)]) := by kernel_rfl
@[go_sem] theorem Try.plainSrc66 : Go.Abs.plainSrc Try.prog 66 = false := by kernel_rfl
@[go_sem] theorem Try.fld66_0 : Go.Abs.fld Try.prog 66 0 = some (0, 3, true) := by kernel_rfl
@[go_sem] theorem Try.fld66_1 : Go.Abs.fld Try.prog 66 1 = some (3, 3, true) := by kernel_rfl
@[go_sem] theorem Try.und67 : Go.Abs.und Try.prog 67 = .struct #[⟨ "From", 65, 0, false, "", "", 0⟩, ⟨ "To", 65, 3, false, "", "", 24⟩] := by kernel_rfl
@[go_sem] theorem Try.siz67 : Go.Abs.siz Try.prog 67 = some 6 := by kernel_rfl
@[go_sem] theorem Try.byt67 : Go.Abs.byt Try.prog 67 = some 48 := by kernel_rfl
@[go_sem] theorem Try.azero67 : Go.Abs.aZero Try.prog 67 = some (6, .agg [.v (.int .i64 0), .v (.int .i64 0), .v (.int .i64 0), .v (.int .i64 0), .v (.int .i64 0), .v (.int .i64 0)]) := by kernel_rfl
@[go_sem] theorem Try.zer67 : Go.Abs.zer Try.prog 67 = some (.agg [.v (.int .i64 0), .v (.int .i64 0), .v (.int .i64 0), .v (.int .i64 0), .v (.int .i64 0), .v (.int .i64 0)]) := by kernel_rfl
@[go_sem] theorem Try.plainSrc67 : Go.Abs.plainSrc Try.prog 67 = false := by kernel_rfl
@[go_sem] theorem Try.fld67_0 : Go.Abs.fld Try.prog 67 0 = some (0, 3, true) := by kernel_rfl
@[go_sem] theorem Try.fld67_1 : Go.Abs.fld Try.prog 67 1 = some (3, 3, true) := by kernel_rfl
@[go_sem] theorem Try.und70 : Go.Abs.und Try.prog 70 = .struct #[⟨ "c", 33, 0, false, "", "skylark/skylarklaw18", 0⟩, ⟨ "order", 31, 6, false, "", "skylark/skylarklaw18", 72⟩, ⟨ "repair", 31, 7, false, "", "skylark/skylarklaw18", 96⟩] := by kernel_rfl
@[go_sem] theorem Try.siz70 : Go.Abs.siz Try.prog 70 = some 8 := by kernel_rfl
@[go_sem] theorem Try.byt70 : Go.Abs.byt Try.prog 70 = some 120 := by kernel_rfl
@[go_sem] theorem Try.azero70 : Go.Abs.aZero Try.prog 70 = some (8, .agg [.v (.int .i64 0), .v (.int .i64 0), .v (.int .i64 0), .v (.int .i64 0), .v (.slice none 0 0), .v (.string ByteArray.empty), .v (.slice none 0 0), .v (.slice none 0 0)]) := by kernel_rfl
@[go_sem] theorem Try.zer70 : Go.Abs.zer Try.prog 70 = some (.agg [.v (.int .i64 0), .v (.int .i64 0), .v (.int .i64 0), .v (.int .i64 0), .v (.slice none 0 0), .v (.string ByteArray.empty), .v (.slice none 0 0), .v (.slice none 0 0)]) := by kernel_rfl
@[go_sem] theorem Try.plainSrc70 : Go.Abs.plainSrc Try.prog 70 = false := by kernel_rfl
@[go_sem] theorem Try.fld70_0 : Go.Abs.fld Try.prog 70 0 = some (0, 6, true) := by kernel_rfl
@[go_sem] theorem Try.fld70_1 : Go.Abs.fld Try.prog 70 1 = some (6, 1, false) := by kernel_rfl
@[go_sem] theorem Try.fld70_2 : Go.Abs.fld Try.prog 70 2 = some (7, 1, false) := by kernel_rfl
@[go_sem] theorem Try.und71 : Go.Abs.und Try.prog 71 = .slice 70 := by kernel_rfl
@[go_sem] theorem Try.siz71 : Go.Abs.siz Try.prog 71 = some 1 := by kernel_rfl
@[go_sem] theorem Try.byt71 : Go.Abs.byt Try.prog 71 = some 24 := by kernel_rfl
@[go_sem] theorem Try.azero71 : Go.Abs.aZero Try.prog 71 = some (1, .v (.slice none 0 0)) := by kernel_rfl
@[go_sem] theorem Try.zer71 : Go.Abs.zer Try.prog 71 = some (.v (.slice none 0 0)) := by kernel_rfl
@[go_sem] theorem Try.plainSrc71 : Go.Abs.plainSrc Try.prog 71 = true := by kernel_rfl
@[go_sem] theorem Try.und72 : Go.Abs.und Try.prog 72 = .slice 75 := by kernel_rfl
@[go_sem] theorem Try.siz72 : Go.Abs.siz Try.prog 72 = some 1 := by kernel_rfl
@[go_sem] theorem Try.byt72 : Go.Abs.byt Try.prog 72 = some 24 := by kernel_rfl
@[go_sem] theorem Try.azero72 : Go.Abs.aZero Try.prog 72 = some (1, .v (.slice none 0 0)) := by kernel_rfl
@[go_sem] theorem Try.zer72 : Go.Abs.zer Try.prog 72 = some (.v (.slice none 0 0)) := by kernel_rfl
@[go_sem] theorem Try.plainSrc72 : Go.Abs.plainSrc Try.prog 72 = true := by kernel_rfl
@[go_sem] theorem Try.und74 : Go.Abs.und Try.prog 74 = .struct #[⟨ "state", 3, 0, false, "", "skylark/admin", 0⟩, ⟨ "chain", 3, 1, false, "", "skylark/admin", 8⟩] := by kernel_rfl
@[go_sem] theorem Try.siz74 : Go.Abs.siz Try.prog 74 = some 2 := by kernel_rfl
@[go_sem] theorem Try.byt74 : Go.Abs.byt Try.prog 74 = some 16 := by kernel_rfl
@[go_sem] theorem Try.azero74 : Go.Abs.aZero Try.prog 74 = some (2, .agg [.v (.int .i64 0), .v (.int .i64 0)]) := by kernel_rfl
@[go_sem] theorem Try.zer74 : Go.Abs.zer Try.prog 74 = some (.agg [.v (.int .i64 0), .v (.int .i64 0)]) := by kernel_rfl
@[go_sem] theorem Try.plainSrc74 : Go.Abs.plainSrc Try.prog 74 = false := by kernel_rfl
@[go_sem] theorem Try.fld74_0 : Go.Abs.fld Try.prog 74 0 = some (0, 1, false) := by kernel_rfl
@[go_sem] theorem Try.fld74_1 : Go.Abs.fld Try.prog 74 1 = some (1, 1, false) := by kernel_rfl
@[go_sem] theorem Try.und75 : Go.Abs.und Try.prog 75 = .struct #[⟨ "state", 3, 0, false, "", "skylark/admin", 0⟩, ⟨ "chain", 3, 1, false, "", "skylark/admin", 8⟩] := by kernel_rfl
@[go_sem] theorem Try.siz75 : Go.Abs.siz Try.prog 75 = some 2 := by kernel_rfl
@[go_sem] theorem Try.byt75 : Go.Abs.byt Try.prog 75 = some 16 := by kernel_rfl
@[go_sem] theorem Try.azero75 : Go.Abs.aZero Try.prog 75 = some (2, .agg [.v (.int .i64 0), .v (.int .i64 0)]) := by kernel_rfl
@[go_sem] theorem Try.zer75 : Go.Abs.zer Try.prog 75 = some (.agg [.v (.int .i64 0), .v (.int .i64 0)]) := by kernel_rfl
@[go_sem] theorem Try.plainSrc75 : Go.Abs.plainSrc Try.prog 75 = false := by kernel_rfl
@[go_sem] theorem Try.fld75_0 : Go.Abs.fld Try.prog 75 0 = some (0, 1, false) := by kernel_rfl
@[go_sem] theorem Try.fld75_1 : Go.Abs.fld Try.prog 75 1 = some (1, 1, false) := by kernel_rfl
@[go_sem] theorem Try.und76 : Go.Abs.und Try.prog 76 = .struct #[⟨ "Version", 3, 0, false, "", "", 0⟩, ⟨ "Weights", 31, 1, false, "", "", 8⟩] := by kernel_rfl
@[go_sem] theorem Try.siz76 : Go.Abs.siz Try.prog 76 = some 2 := by kernel_rfl
@[go_sem] theorem Try.byt76 : Go.Abs.byt Try.prog 76 = some 32 := by kernel_rfl
@[go_sem] theorem Try.azero76 : Go.Abs.aZero Try.prog 76 = some (2, .agg [.v (.int .i64 0), .v (.slice none 0 0)]) := by kernel_rfl
@[go_sem] theorem Try.zer76 : Go.Abs.zer Try.prog 76 = some (.agg [.v (.int .i64 0), .v (.slice none 0 0)]) := by kernel_rfl
@[go_sem] theorem Try.plainSrc76 : Go.Abs.plainSrc Try.prog 76 = false := by kernel_rfl
@[go_sem] theorem Try.fld76_0 : Go.Abs.fld Try.prog 76 0 = some (0, 1, false) := by kernel_rfl
@[go_sem] theorem Try.fld76_1 : Go.Abs.fld Try.prog 76 1 = some (1, 1, false) := by kernel_rfl
@[go_sem] theorem Try.und77 : Go.Abs.und Try.prog 77 = .struct #[⟨ "Version", 3, 0, false, "", "", 0⟩, ⟨ "Weights", 31, 1, false, "", "", 8⟩] := by kernel_rfl
@[go_sem] theorem Try.siz77 : Go.Abs.siz Try.prog 77 = some 2 := by kernel_rfl
@[go_sem] theorem Try.byt77 : Go.Abs.byt Try.prog 77 = some 32 := by kernel_rfl
@[go_sem] theorem Try.azero77 : Go.Abs.aZero Try.prog 77 = some (2, .agg [.v (.int .i64 0), .v (.slice none 0 0)]) := by kernel_rfl
@[go_sem] theorem Try.zer77 : Go.Abs.zer Try.prog 77 = some (.agg [.v (.int .i64 0), .v (.slice none 0 0)]) := by kernel_rfl
@[go_sem] theorem Try.plainSrc77 : Go.Abs.plainSrc Try.prog 77 = false := by kernel_rfl
@[go_sem] theorem Try.fld77_0 : Go.Abs.fld Try.prog 77 0 = some (0, 1, false) := by kernel_rfl
@[go_sem] theorem Try.fld77_1 : Go.Abs.fld Try.prog 77 1 = some (1, 1, false) := by kernel_rfl
@[go_sem] theorem Try.und78 : Go.Abs.und Try.prog 78 = .pointer 138 := by kernel_rfl
@[go_sem] theorem Try.siz78 : Go.Abs.siz Try.prog 78 = some 1 := by kernel_rfl
@[go_sem] theorem Try.byt78 : Go.Abs.byt Try.prog 78 = some 8 := by kernel_rfl
@[go_sem] theorem Try.azero78 : Go.Abs.aZero Try.prog 78 = some (1, .v (.pointer none)) := by kernel_rfl
@[go_sem] theorem Try.zer78 : Go.Abs.zer Try.prog 78 = some (.v (.pointer none)) := by kernel_rfl
@[go_sem] theorem Try.plainSrc78 : Go.Abs.plainSrc Try.prog 78 = false := by kernel_rfl
@[go_sem] theorem Try.und79 : Go.Abs.und Try.prog 79 = .struct #[⟨ "bricks", 72, 0, false, "", "skylark/admin", 0⟩, ⟨ "chains", 29, 1, false, "", "skylark/admin", 24⟩, ⟨ "layout", 77, 2, false, "", "skylark/admin", 48⟩, ⟨ "change", 78, 4, false, "", "skylark/admin", 80⟩] := by kernel_rfl
@[go_sem] theorem Try.siz79 : Go.Abs.siz Try.prog 79 = some 5 := by kernel_rfl
@[go_sem] theorem Try.byt79 : Go.Abs.byt Try.prog 79 = some 88 := by kernel_rfl
@[go_sem] theorem Try.azero79 : Go.Abs.aZero Try.prog 79 = some (5, .agg [.v (.slice none 0 0), .v (.slice none 0 0), .v (.int .i64 0), .v (.slice none 0 0), .v (.pointer none)]) := by kernel_rfl
@[go_sem] theorem Try.zer79 : Go.Abs.zer Try.prog 79 = some (.agg [.v (.slice none 0 0), .v (.slice none 0 0), .v (.int .i64 0), .v (.slice none 0 0), .v (.pointer none)]) := by kernel_rfl
@[go_sem] theorem Try.plainSrc79 : Go.Abs.plainSrc Try.prog 79 = false := by kernel_rfl
@[go_sem] theorem Try.fld79_0 : Go.Abs.fld Try.prog 79 0 = some (0, 1, false) := by kernel_rfl
@[go_sem] theorem Try.fld79_1 : Go.Abs.fld Try.prog 79 1 = some (1, 1, false) := by kernel_rfl
@[go_sem] theorem Try.fld79_2 : Go.Abs.fld Try.prog 79 2 = some (2, 2, true) := by kernel_rfl
@[go_sem] theorem Try.fld79_3 : Go.Abs.fld Try.prog 79 3 = some (4, 1, false) := by kernel_rfl
@[go_sem] theorem Try.und80 : Go.Abs.und Try.prog 80 = .struct #[⟨ "bricks", 72, 0, false, "", "skylark/admin", 0⟩, ⟨ "chains", 29, 1, false, "", "skylark/admin", 24⟩, ⟨ "layout", 77, 2, false, "", "skylark/admin", 48⟩, ⟨ "change", 78, 4, false, "", "skylark/admin", 80⟩] := by kernel_rfl
@[go_sem] theorem Try.siz80 : Go.Abs.siz Try.prog 80 = some 5 := by kernel_rfl
@[go_sem] theorem Try.byt80 : Go.Abs.byt Try.prog 80 = some 88 := by kernel_rfl
@[go_sem] theorem Try.azero80 : Go.Abs.aZero Try.prog 80 = some (5, .agg [.v (.slice none 0 0), .v (.slice none 0 0), .v (.int .i64 0), .v (.slice none 0 0), .v (.pointer none)]) := by kernel_rfl
@[go_sem] theorem Try.zer80 : Go.Abs.zer Try.prog 80 = some (.agg [.v (.slice none 0 0), .v (.slice none 0 0), .v (.int .i64 0), .v (.slice none 0 0), .v (.pointer none)]) := by kernel_rfl
@[go_sem] theorem Try.plainSrc80 : Go.Abs.plainSrc Try.prog 80 = false := by kernel_rfl
@[go_sem] theorem Try.fld80_0 : Go.Abs.fld Try.prog 80 0 = some (0, 1, false) := by kernel_rfl
@[go_sem] theorem Try.fld80_1 : Go.Abs.fld Try.prog 80 1 = some (1, 1, false) := by kernel_rfl
@[go_sem] theorem Try.fld80_2 : Go.Abs.fld Try.prog 80 2 = some (2, 2, true) := by kernel_rfl
@[go_sem] theorem Try.fld80_3 : Go.Abs.fld Try.prog 80 3 = some (4, 1, false) := by kernel_rfl
@[go_sem] theorem Try.und81 : Go.Abs.und Try.prog 81 = .slice 85 := by kernel_rfl
@[go_sem] theorem Try.siz81 : Go.Abs.siz Try.prog 81 = some 1 := by kernel_rfl
@[go_sem] theorem Try.byt81 : Go.Abs.byt Try.prog 81 = some 24 := by kernel_rfl
@[go_sem] theorem Try.azero81 : Go.Abs.aZero Try.prog 81 = some (1, .v (.slice none 0 0)) := by kernel_rfl
@[go_sem] theorem Try.zer81 : Go.Abs.zer Try.prog 81 = some (.v (.slice none 0 0)) := by kernel_rfl
@[go_sem] theorem Try.plainSrc81 : Go.Abs.plainSrc Try.prog 81 = true := by kernel_rfl
@[go_sem] theorem Try.und84 : Go.Abs.und Try.prog 84 = .struct #[⟨ "chain", 4, 0, false, "", "skylark/admin", 0⟩, ⟨ "brick", 4, 1, false, "", "skylark/admin", 1⟩, ⟨ "epoch", 4, 2, false, "", "skylark/admin", 2⟩, ⟨ "list", 4, 3, false, "", "skylark/admin", 3⟩, ⟨ "cursor", 4, 4, false, "", "skylark/admin", 4⟩, ⟨ "do", 83, 5, false, "", "skylark/admin", 8⟩] := by kernel_rfl
@[go_sem] theorem Try.siz84 : Go.Abs.siz Try.prog 84 = some 6 := by kernel_rfl
@[go_sem] theorem Try.byt84 : Go.Abs.byt Try.prog 84 = some 16 := by kernel_rfl
@[go_sem] theorem Try.azero84 : Go.Abs.aZero Try.prog 84 = some (6, .agg [.v (.bool false), .v (.bool false), .v (.bool false), .v (.bool false), .v (.bool false), .v (.nilFunc)]) := by kernel_rfl
@[go_sem] theorem Try.zer84 : Go.Abs.zer Try.prog 84 = some (.agg [.v (.bool false), .v (.bool false), .v (.bool false), .v (.bool false), .v (.bool false), .v (.nilFunc)]) := by kernel_rfl
@[go_sem] theorem Try.plainSrc84 : Go.Abs.plainSrc Try.prog 84 = false := by kernel_rfl
@[go_sem] theorem Try.fld84_0 : Go.Abs.fld Try.prog 84 0 = some (0, 1, false) := by kernel_rfl
@[go_sem] theorem Try.fld84_1 : Go.Abs.fld Try.prog 84 1 = some (1, 1, false) := by kernel_rfl
@[go_sem] theorem Try.fld84_2 : Go.Abs.fld Try.prog 84 2 = some (2, 1, false) := by kernel_rfl
@[go_sem] theorem Try.fld84_3 : Go.Abs.fld Try.prog 84 3 = some (3, 1, false) := by kernel_rfl
@[go_sem] theorem Try.fld84_4 : Go.Abs.fld Try.prog 84 4 = some (4, 1, false) := by kernel_rfl
@[go_sem] theorem Try.fld84_5 : Go.Abs.fld Try.prog 84 5 = some (5, 1, false) := by kernel_rfl
@[go_sem] theorem Try.und85 : Go.Abs.und Try.prog 85 = .struct #[⟨ "chain", 4, 0, false, "", "skylark/admin", 0⟩, ⟨ "brick", 4, 1, false, "", "skylark/admin", 1⟩, ⟨ "epoch", 4, 2, false, "", "skylark/admin", 2⟩, ⟨ "list", 4, 3, false, "", "skylark/admin", 3⟩, ⟨ "cursor", 4, 4, false, "", "skylark/admin", 4⟩, ⟨ "do", 83, 5, false, "", "skylark/admin", 8⟩] := by kernel_rfl
@[go_sem] theorem Try.siz85 : Go.Abs.siz Try.prog 85 = some 6 := by kernel_rfl
@[go_sem] theorem Try.byt85 : Go.Abs.byt Try.prog 85 = some 16 := by kernel_rfl
@[go_sem] theorem Try.azero85 : Go.Abs.aZero Try.prog 85 = some (6, .agg [.v (.bool false), .v (.bool false), .v (.bool false), .v (.bool false), .v (.bool false), .v (.nilFunc)]) := by kernel_rfl
@[go_sem] theorem Try.zer85 : Go.Abs.zer Try.prog 85 = some (.agg [.v (.bool false), .v (.bool false), .v (.bool false), .v (.bool false), .v (.bool false), .v (.nilFunc)]) := by kernel_rfl
@[go_sem] theorem Try.plainSrc85 : Go.Abs.plainSrc Try.prog 85 = false := by kernel_rfl
@[go_sem] theorem Try.fld85_0 : Go.Abs.fld Try.prog 85 0 = some (0, 1, false) := by kernel_rfl
@[go_sem] theorem Try.fld85_1 : Go.Abs.fld Try.prog 85 1 = some (1, 1, false) := by kernel_rfl
@[go_sem] theorem Try.fld85_2 : Go.Abs.fld Try.prog 85 2 = some (2, 1, false) := by kernel_rfl
@[go_sem] theorem Try.fld85_3 : Go.Abs.fld Try.prog 85 3 = some (3, 1, false) := by kernel_rfl
@[go_sem] theorem Try.fld85_4 : Go.Abs.fld Try.prog 85 4 = some (4, 1, false) := by kernel_rfl
@[go_sem] theorem Try.fld85_5 : Go.Abs.fld Try.prog 85 5 = some (5, 1, false) := by kernel_rfl
@[go_sem] theorem Try.und88 : Go.Abs.und Try.prog 88 = .struct #[⟨ "Text", 4, 0, false, "", "", 0⟩, ⟨ "N", 2, 1, false, "", "", 8⟩, ⟨ "S", 9, 2, false, "", "", 16⟩] := by kernel_rfl
@[go_sem] theorem Try.siz88 : Go.Abs.siz Try.prog 88 = some 3 := by kernel_rfl
@[go_sem] theorem Try.byt88 : Go.Abs.byt Try.prog 88 = some 32 := by kernel_rfl
@[go_sem] theorem Try.azero88 : Go.Abs.aZero Try.prog 88 = some (3, .agg [.v (.bool false), .v (.int .i64 0), .v (.string ByteArray.empty)]) := by kernel_rfl
@[go_sem] theorem Try.zer88 : Go.Abs.zer Try.prog 88 = some (.agg [.v (.bool false), .v (.int .i64 0), .v (.string ByteArray.empty)]) := by kernel_rfl
@[go_sem] theorem Try.plainSrc88 : Go.Abs.plainSrc Try.prog 88 = false := by kernel_rfl
@[go_sem] theorem Try.fld88_0 : Go.Abs.fld Try.prog 88 0 = some (0, 1, false) := by kernel_rfl
@[go_sem] theorem Try.fld88_1 : Go.Abs.fld Try.prog 88 1 = some (1, 1, false) := by kernel_rfl
@[go_sem] theorem Try.fld88_2 : Go.Abs.fld Try.prog 88 2 = some (2, 1, false) := by kernel_rfl
@[go_sem] theorem Try.und89 : Go.Abs.und Try.prog 89 = .struct #[⟨ "Text", 4, 0, false, "", "", 0⟩, ⟨ "N", 2, 1, false, "", "", 8⟩, ⟨ "S", 9, 2, false, "", "", 16⟩] := by kernel_rfl
@[go_sem] theorem Try.siz89 : Go.Abs.siz Try.prog 89 = some 3 := by kernel_rfl
@[go_sem] theorem Try.byt89 : Go.Abs.byt Try.prog 89 = some 32 := by kernel_rfl
@[go_sem] theorem Try.azero89 : Go.Abs.aZero Try.prog 89 = some (3, .agg [.v (.bool false), .v (.int .i64 0), .v (.string ByteArray.empty)]) := by kernel_rfl
@[go_sem] theorem Try.zer89 : Go.Abs.zer Try.prog 89 = some (.agg [.v (.bool false), .v (.int .i64 0), .v (.string ByteArray.empty)]) := by kernel_rfl
@[go_sem] theorem Try.plainSrc89 : Go.Abs.plainSrc Try.prog 89 = false := by kernel_rfl
@[go_sem] theorem Try.fld89_0 : Go.Abs.fld Try.prog 89 0 = some (0, 1, false) := by kernel_rfl
@[go_sem] theorem Try.fld89_1 : Go.Abs.fld Try.prog 89 1 = some (1, 1, false) := by kernel_rfl
@[go_sem] theorem Try.fld89_2 : Go.Abs.fld Try.prog 89 2 = some (2, 1, false) := by kernel_rfl
@[go_sem] theorem Try.und90 : Go.Abs.und Try.prog 90 = .slice 89 := by kernel_rfl
@[go_sem] theorem Try.siz90 : Go.Abs.siz Try.prog 90 = some 1 := by kernel_rfl
@[go_sem] theorem Try.byt90 : Go.Abs.byt Try.prog 90 = some 24 := by kernel_rfl
@[go_sem] theorem Try.azero90 : Go.Abs.aZero Try.prog 90 = some (1, .v (.slice none 0 0)) := by kernel_rfl
@[go_sem] theorem Try.zer90 : Go.Abs.zer Try.prog 90 = some (.v (.slice none 0 0)) := by kernel_rfl
@[go_sem] theorem Try.plainSrc90 : Go.Abs.plainSrc Try.prog 90 = true := by kernel_rfl
@[go_sem] theorem Try.und93 : Go.Abs.und Try.prog 93 = .struct #[⟨ "At", 3, 0, false, "", "", 0⟩, ⟨ "Code", 26, 1, false, "", "", 8⟩] := by kernel_rfl
@[go_sem] theorem Try.siz93 : Go.Abs.siz Try.prog 93 = some 2 := by kernel_rfl
@[go_sem] theorem Try.byt93 : Go.Abs.byt Try.prog 93 = some 16 := by kernel_rfl
@[go_sem] theorem Try.azero93 : Go.Abs.aZero Try.prog 93 = some (2, .agg [.v (.int .i64 0), .v (.int .i64 0)]) := by kernel_rfl
@[go_sem] theorem Try.zer93 : Go.Abs.zer Try.prog 93 = some (.agg [.v (.int .i64 0), .v (.int .i64 0)]) := by kernel_rfl
@[go_sem] theorem Try.plainSrc93 : Go.Abs.plainSrc Try.prog 93 = false := by kernel_rfl
@[go_sem] theorem Try.fld93_0 : Go.Abs.fld Try.prog 93 0 = some (0, 1, false) := by kernel_rfl
@[go_sem] theorem Try.fld93_1 : Go.Abs.fld Try.prog 93 1 = some (1, 1, false) := by kernel_rfl
@[go_sem] theorem Try.und94 : Go.Abs.und Try.prog 94 = .struct #[⟨ "At", 3, 0, false, "", "", 0⟩, ⟨ "Code", 26, 1, false, "", "", 8⟩] := by kernel_rfl
@[go_sem] theorem Try.siz94 : Go.Abs.siz Try.prog 94 = some 2 := by kernel_rfl
@[go_sem] theorem Try.byt94 : Go.Abs.byt Try.prog 94 = some 16 := by kernel_rfl
@[go_sem] theorem Try.azero94 : Go.Abs.aZero Try.prog 94 = some (2, .agg [.v (.int .i64 0), .v (.int .i64 0)]) := by kernel_rfl
@[go_sem] theorem Try.zer94 : Go.Abs.zer Try.prog 94 = some (.agg [.v (.int .i64 0), .v (.int .i64 0)]) := by kernel_rfl
@[go_sem] theorem Try.plainSrc94 : Go.Abs.plainSrc Try.prog 94 = false := by kernel_rfl
@[go_sem] theorem Try.fld94_0 : Go.Abs.fld Try.prog 94 0 = some (0, 1, false) := by kernel_rfl
@[go_sem] theorem Try.fld94_1 : Go.Abs.fld Try.prog 94 1 = some (1, 1, false) := by kernel_rfl
@[go_sem] theorem Try.und100 : Go.Abs.und Try.prog 100 = .slice 122 := by kernel_rfl
@[go_sem] theorem Try.siz100 : Go.Abs.siz Try.prog 100 = some 1 := by kernel_rfl
@[go_sem] theorem Try.byt100 : Go.Abs.byt Try.prog 100 = some 24 := by kernel_rfl
@[go_sem] theorem Try.azero100 : Go.Abs.aZero Try.prog 100 = some (1, .v (.slice none 0 0)) := by kernel_rfl
@[go_sem] theorem Try.zer100 : Go.Abs.zer Try.prog 100 = some (.v (.slice none 0 0)) := by kernel_rfl
@[go_sem] theorem Try.plainSrc100 : Go.Abs.plainSrc Try.prog 100 = true := by kernel_rfl
@[go_sem] theorem Try.und103 : Go.Abs.und Try.prog 103 = .map 3 3 := by kernel_rfl
@[go_sem] theorem Try.siz103 : Go.Abs.siz Try.prog 103 = some 1 := by kernel_rfl
@[go_sem] theorem Try.byt103 : Go.Abs.byt Try.prog 103 = some 8 := by kernel_rfl
@[go_sem] theorem Try.azero103 : Go.Abs.aZero Try.prog 103 = some (1, .v (.map none)) := by kernel_rfl
@[go_sem] theorem Try.zer103 : Go.Abs.zer Try.prog 103 = some (.v (.map none)) := by kernel_rfl
@[go_sem] theorem Try.plainSrc103 : Go.Abs.plainSrc Try.prog 103 = false := by kernel_rfl
@[go_sem] theorem Try.und108 : Go.Abs.und Try.prog 108 = .int .u64 := by kernel_rfl
@[go_sem] theorem Try.siz108 : Go.Abs.siz Try.prog 108 = some 1 := by kernel_rfl
@[go_sem] theorem Try.byt108 : Go.Abs.byt Try.prog 108 = some 8 := by kernel_rfl
@[go_sem] theorem Try.azero108 : Go.Abs.aZero Try.prog 108 = some (1, .v (.int .u64 0)) := by kernel_rfl
@[go_sem] theorem Try.zer108 : Go.Abs.zer Try.prog 108 = some (.v (.int .u64 0)) := by kernel_rfl
@[go_sem] theorem Try.plainSrc108 : Go.Abs.plainSrc Try.prog 108 = false := by kernel_rfl
@[go_sem] theorem Try.und112 : Go.Abs.und Try.prog 112 = .slice 5 := by kernel_rfl
@[go_sem] theorem Try.siz112 : Go.Abs.siz Try.prog 112 = some 1 := by kernel_rfl
@[go_sem] theorem Try.byt112 : Go.Abs.byt Try.prog 112 = some 24 := by kernel_rfl
@[go_sem] theorem Try.azero112 : Go.Abs.aZero Try.prog 112 = some (1, .v (.slice none 0 0)) := by kernel_rfl
@[go_sem] theorem Try.zer112 : Go.Abs.zer Try.prog 112 = some (.v (.slice none 0 0)) := by kernel_rfl
@[go_sem] theorem Try.plainSrc112 : Go.Abs.plainSrc Try.prog 112 = true := by kernel_rfl
@[go_sem] theorem Try.und122 : Go.Abs.und Try.prog 122 = .struct #[⟨ "File", 3, 0, false, "", "", 0⟩, ⟨ "At", 3, 1, false, "", "", 8⟩, ⟨ "Long", 3, 2, false, "", "", 16⟩] := by kernel_rfl
@[go_sem] theorem Try.siz122 : Go.Abs.siz Try.prog 122 = some 3 := by kernel_rfl
@[go_sem] theorem Try.byt122 : Go.Abs.byt Try.prog 122 = some 24 := by kernel_rfl
@[go_sem] theorem Try.azero122 : Go.Abs.aZero Try.prog 122 = some (3, .agg [.v (.int .i64 0), .v (.int .i64 0), .v (.int .i64 0)]) := by kernel_rfl
@[go_sem] theorem Try.zer122 : Go.Abs.zer Try.prog 122 = some (.agg [.v (.int .i64 0), .v (.int .i64 0), .v (.int .i64 0)]) := by kernel_rfl
@[go_sem] theorem Try.plainSrc122 : Go.Abs.plainSrc Try.prog 122 = false := by kernel_rfl
@[go_sem] theorem Try.fld122_0 : Go.Abs.fld Try.prog 122 0 = some (0, 1, false) := by kernel_rfl
@[go_sem] theorem Try.fld122_1 : Go.Abs.fld Try.prog 122 1 = some (1, 1, false) := by kernel_rfl
@[go_sem] theorem Try.fld122_2 : Go.Abs.fld Try.prog 122 2 = some (2, 1, false) := by kernel_rfl
@[go_sem] theorem Try.und128 : Go.Abs.und Try.prog 128 = .int .u32 := by kernel_rfl
@[go_sem] theorem Try.siz128 : Go.Abs.siz Try.prog 128 = some 1 := by kernel_rfl
@[go_sem] theorem Try.byt128 : Go.Abs.byt Try.prog 128 = some 4 := by kernel_rfl
@[go_sem] theorem Try.azero128 : Go.Abs.aZero Try.prog 128 = some (1, .v (.int .u32 0)) := by kernel_rfl
@[go_sem] theorem Try.zer128 : Go.Abs.zer Try.prog 128 = some (.v (.int .u32 0)) := by kernel_rfl
@[go_sem] theorem Try.plainSrc128 : Go.Abs.plainSrc Try.prog 128 = false := by kernel_rfl
@[go_sem] theorem Try.und137 : Go.Abs.und Try.prog 137 = .struct #[⟨ "Was", 77, 0, false, "", "", 0⟩, ⟨ "Will", 77, 2, false, "", "", 32⟩, ⟨ "Cursor", 9, 4, false, "", "", 64⟩, ⟨ "Done", 4, 5, false, "", "", 80⟩] := by kernel_rfl
@[go_sem] theorem Try.siz137 : Go.Abs.siz Try.prog 137 = some 6 := by kernel_rfl
@[go_sem] theorem Try.byt137 : Go.Abs.byt Try.prog 137 = some 88 := by kernel_rfl
@[go_sem] theorem Try.azero137 : Go.Abs.aZero Try.prog 137 = some (6, .agg [.v (.int .i64 0), .v (.slice none 0 0), .v (.int .i64 0), .v (.slice none 0 0), .v (.string ByteArray.empty), .v (.bool false)]) := by kernel_rfl
@[go_sem] theorem Try.zer137 : Go.Abs.zer Try.prog 137 = some (.agg [.v (.int .i64 0), .v (.slice none 0 0), .v (.int .i64 0), .v (.slice none 0 0), .v (.string ByteArray.empty), .v (.bool false)]) := by kernel_rfl
@[go_sem] theorem Try.plainSrc137 : Go.Abs.plainSrc Try.prog 137 = false := by kernel_rfl
@[go_sem] theorem Try.fld137_0 : Go.Abs.fld Try.prog 137 0 = some (0, 2, true) := by kernel_rfl
@[go_sem] theorem Try.fld137_1 : Go.Abs.fld Try.prog 137 1 = some (2, 2, true) := by kernel_rfl
@[go_sem] theorem Try.fld137_2 : Go.Abs.fld Try.prog 137 2 = some (4, 1, false) := by kernel_rfl
@[go_sem] theorem Try.fld137_3 : Go.Abs.fld Try.prog 137 3 = some (5, 1, false) := by kernel_rfl
@[go_sem] theorem Try.und138 : Go.Abs.und Try.prog 138 = .struct #[⟨ "Was", 77, 0, false, "", "", 0⟩, ⟨ "Will", 77, 2, false, "", "", 32⟩, ⟨ "Cursor", 9, 4, false, "", "", 64⟩, ⟨ "Done", 4, 5, false, "", "", 80⟩] := by kernel_rfl
@[go_sem] theorem Try.siz138 : Go.Abs.siz Try.prog 138 = some 6 := by kernel_rfl
@[go_sem] theorem Try.byt138 : Go.Abs.byt Try.prog 138 = some 88 := by kernel_rfl
@[go_sem] theorem Try.azero138 : Go.Abs.aZero Try.prog 138 = some (6, .agg [.v (.int .i64 0), .v (.slice none 0 0), .v (.int .i64 0), .v (.slice none 0 0), .v (.string ByteArray.empty), .v (.bool false)]) := by kernel_rfl
@[go_sem] theorem Try.zer138 : Go.Abs.zer Try.prog 138 = some (.agg [.v (.int .i64 0), .v (.slice none 0 0), .v (.int .i64 0), .v (.slice none 0 0), .v (.string ByteArray.empty), .v (.bool false)]) := by kernel_rfl
@[go_sem] theorem Try.plainSrc138 : Go.Abs.plainSrc Try.prog 138 = false := by kernel_rfl
@[go_sem] theorem Try.fld138_0 : Go.Abs.fld Try.prog 138 0 = some (0, 2, true) := by kernel_rfl
@[go_sem] theorem Try.fld138_1 : Go.Abs.fld Try.prog 138 1 = some (2, 2, true) := by kernel_rfl
@[go_sem] theorem Try.fld138_2 : Go.Abs.fld Try.prog 138 2 = some (4, 1, false) := by kernel_rfl
@[go_sem] theorem Try.fld138_3 : Go.Abs.fld Try.prog 138 3 = some (5, 1, false) := by kernel_rfl
@[go_sem] theorem Try.und153 : Go.Abs.und Try.prog 153 = .struct #[⟨ "cursor", 9, 0, false, "", "skylark/layout", 0⟩, ⟨ "done", 4, 1, false, "", "skylark/layout", 16⟩] := by kernel_rfl
@[go_sem] theorem Try.siz153 : Go.Abs.siz Try.prog 153 = some 2 := by kernel_rfl
@[go_sem] theorem Try.byt153 : Go.Abs.byt Try.prog 153 = some 24 := by kernel_rfl
@[go_sem] theorem Try.azero153 : Go.Abs.aZero Try.prog 153 = some (2, .agg [.v (.string ByteArray.empty), .v (.bool false)]) := by kernel_rfl
@[go_sem] theorem Try.zer153 : Go.Abs.zer Try.prog 153 = some (.agg [.v (.string ByteArray.empty), .v (.bool false)]) := by kernel_rfl
@[go_sem] theorem Try.plainSrc153 : Go.Abs.plainSrc Try.prog 153 = false := by kernel_rfl
@[go_sem] theorem Try.fld153_0 : Go.Abs.fld Try.prog 153 0 = some (0, 1, false) := by kernel_rfl
@[go_sem] theorem Try.fld153_1 : Go.Abs.fld Try.prog 153 1 = some (1, 1, false) := by kernel_rfl
@[go_sem] theorem Try.und154 : Go.Abs.und Try.prog 154 = .struct #[⟨ "cursor", 9, 0, false, "", "skylark/layout", 0⟩, ⟨ "done", 4, 1, false, "", "skylark/layout", 16⟩] := by kernel_rfl
@[go_sem] theorem Try.siz154 : Go.Abs.siz Try.prog 154 = some 2 := by kernel_rfl
@[go_sem] theorem Try.byt154 : Go.Abs.byt Try.prog 154 = some 24 := by kernel_rfl
@[go_sem] theorem Try.azero154 : Go.Abs.aZero Try.prog 154 = some (2, .agg [.v (.string ByteArray.empty), .v (.bool false)]) := by kernel_rfl
@[go_sem] theorem Try.zer154 : Go.Abs.zer Try.prog 154 = some (.agg [.v (.string ByteArray.empty), .v (.bool false)]) := by kernel_rfl
@[go_sem] theorem Try.plainSrc154 : Go.Abs.plainSrc Try.prog 154 = false := by kernel_rfl
@[go_sem] theorem Try.fld154_0 : Go.Abs.fld Try.prog 154 0 = some (0, 1, false) := by kernel_rfl
@[go_sem] theorem Try.fld154_1 : Go.Abs.fld Try.prog 154 1 = some (1, 1, false) := by kernel_rfl
@[go_sem] theorem Try.und156 : Go.Abs.und Try.prog 156 = .struct #[⟨ "n", 24, 0, false, "", "skylark/code", 0⟩, ⟨ "many", 3, 1, false, "", "skylark/code", 8⟩] := by kernel_rfl
@[go_sem] theorem Try.siz156 : Go.Abs.siz Try.prog 156 = some 2 := by kernel_rfl
@[go_sem] theorem Try.byt156 : Go.Abs.byt Try.prog 156 = some 16 := by kernel_rfl
@[go_sem] theorem Try.azero156 : Go.Abs.aZero Try.prog 156 = some (2, .agg [.v (.int .u64 0), .v (.int .i64 0)]) := by kernel_rfl
@[go_sem] theorem Try.zer156 : Go.Abs.zer Try.prog 156 = some (.agg [.v (.int .u64 0), .v (.int .i64 0)]) := by kernel_rfl
@[go_sem] theorem Try.plainSrc156 : Go.Abs.plainSrc Try.prog 156 = false := by kernel_rfl
@[go_sem] theorem Try.fld156_0 : Go.Abs.fld Try.prog 156 0 = some (0, 1, false) := by kernel_rfl
@[go_sem] theorem Try.fld156_1 : Go.Abs.fld Try.prog 156 1 = some (1, 1, false) := by kernel_rfl
@[go_sem] theorem Try.und157 : Go.Abs.und Try.prog 157 = .struct #[⟨ "n", 24, 0, false, "", "skylark/code", 0⟩, ⟨ "many", 3, 1, false, "", "skylark/code", 8⟩] := by kernel_rfl
@[go_sem] theorem Try.siz157 : Go.Abs.siz Try.prog 157 = some 2 := by kernel_rfl
@[go_sem] theorem Try.byt157 : Go.Abs.byt Try.prog 157 = some 16 := by kernel_rfl
@[go_sem] theorem Try.azero157 : Go.Abs.aZero Try.prog 157 = some (2, .agg [.v (.int .u64 0), .v (.int .i64 0)]) := by kernel_rfl
@[go_sem] theorem Try.zer157 : Go.Abs.zer Try.prog 157 = some (.agg [.v (.int .u64 0), .v (.int .i64 0)]) := by kernel_rfl
@[go_sem] theorem Try.plainSrc157 : Go.Abs.plainSrc Try.prog 157 = false := by kernel_rfl
@[go_sem] theorem Try.fld157_0 : Go.Abs.fld Try.prog 157 0 = some (0, 1, false) := by kernel_rfl
@[go_sem] theorem Try.fld157_1 : Go.Abs.fld Try.prog 157 1 = some (1, 1, false) := by kernel_rfl
@[go_sem] theorem Try.und160 : Go.Abs.und Try.prog 160 = .int .i64 := by kernel_rfl
@[go_sem] theorem Try.siz160 : Go.Abs.siz Try.prog 160 = some 1 := by kernel_rfl
@[go_sem] theorem Try.byt160 : Go.Abs.byt Try.prog 160 = some 8 := by kernel_rfl
@[go_sem] theorem Try.azero160 : Go.Abs.aZero Try.prog 160 = some (1, .v (.int .i64 0)) := by kernel_rfl
@[go_sem] theorem Try.zer160 : Go.Abs.zer Try.prog 160 = some (.v (.int .i64 0)) := by kernel_rfl
@[go_sem] theorem Try.plainSrc160 : Go.Abs.plainSrc Try.prog 160 = false := by kernel_rfl
@[go_sem] theorem Try.und175 : Go.Abs.und Try.prog 175 = .int .u64 := by kernel_rfl
@[go_sem] theorem Try.siz175 : Go.Abs.siz Try.prog 175 = some 1 := by kernel_rfl
@[go_sem] theorem Try.byt175 : Go.Abs.byt Try.prog 175 = some 8 := by kernel_rfl
@[go_sem] theorem Try.azero175 : Go.Abs.aZero Try.prog 175 = some (1, .v (.int .u64 0)) := by kernel_rfl
@[go_sem] theorem Try.zer175 : Go.Abs.zer Try.prog 175 = some (.v (.int .u64 0)) := by kernel_rfl
@[go_sem] theorem Try.plainSrc175 : Go.Abs.plainSrc Try.prog 175 = false := by kernel_rfl
@[go_sem] theorem Try.und179 : Go.Abs.und Try.prog 179 = .pointer 3 := by kernel_rfl
@[go_sem] theorem Try.siz179 : Go.Abs.siz Try.prog 179 = some 1 := by kernel_rfl
@[go_sem] theorem Try.byt179 : Go.Abs.byt Try.prog 179 = some 8 := by kernel_rfl
@[go_sem] theorem Try.azero179 : Go.Abs.aZero Try.prog 179 = some (1, .v (.pointer none)) := by kernel_rfl
@[go_sem] theorem Try.zer179 : Go.Abs.zer Try.prog 179 = some (.v (.pointer none)) := by kernel_rfl
@[go_sem] theorem Try.plainSrc179 : Go.Abs.plainSrc Try.prog 179 = false := by kernel_rfl
@[go_sem] theorem Try.und184 : Go.Abs.und Try.prog 184 = .pointer 175 := by kernel_rfl
@[go_sem] theorem Try.siz184 : Go.Abs.siz Try.prog 184 = some 1 := by kernel_rfl
@[go_sem] theorem Try.byt184 : Go.Abs.byt Try.prog 184 = some 8 := by kernel_rfl
@[go_sem] theorem Try.azero184 : Go.Abs.aZero Try.prog 184 = some (1, .v (.pointer none)) := by kernel_rfl
@[go_sem] theorem Try.zer184 : Go.Abs.zer Try.prog 184 = some (.v (.pointer none)) := by kernel_rfl
@[go_sem] theorem Try.plainSrc184 : Go.Abs.plainSrc Try.prog 184 = false := by kernel_rfl
@[go_sem] theorem Try.und189 : Go.Abs.und Try.prog 189 = .struct #[⟨ "_interface", 17, 0, false, "", "runtime", 0⟩, ⟨ "concrete", 17, 1, false, "", "runtime", 8⟩, ⟨ "asserted", 17, 2, false, "", "runtime", 16⟩, ⟨ "missingMethod", 9, 3, false, "", "runtime", 24⟩] := by kernel_rfl
@[go_sem] theorem Try.siz189 : Go.Abs.siz Try.prog 189 = some 4 := by kernel_rfl
@[go_sem] theorem Try.byt189 : Go.Abs.byt Try.prog 189 = some 40 := by kernel_rfl
@[go_sem] theorem Try.azero189 : Go.Abs.aZero Try.prog 189 = some (4, .agg [.v (.pointer none), .v (.pointer none), .v (.pointer none), .v (.string ByteArray.empty)]) := by kernel_rfl
@[go_sem] theorem Try.zer189 : Go.Abs.zer Try.prog 189 = some (.agg [.v (.pointer none), .v (.pointer none), .v (.pointer none), .v (.string ByteArray.empty)]) := by kernel_rfl
@[go_sem] theorem Try.plainSrc189 : Go.Abs.plainSrc Try.prog 189 = false := by kernel_rfl
@[go_sem] theorem Try.fld189_0 : Go.Abs.fld Try.prog 189 0 = some (0, 1, false) := by kernel_rfl
@[go_sem] theorem Try.fld189_1 : Go.Abs.fld Try.prog 189 1 = some (1, 1, false) := by kernel_rfl
@[go_sem] theorem Try.fld189_2 : Go.Abs.fld Try.prog 189 2 = some (2, 1, false) := by kernel_rfl
@[go_sem] theorem Try.fld189_3 : Go.Abs.fld Try.prog 189 3 = some (3, 1, false) := by kernel_rfl
@[go_sem] theorem Try.und190 : Go.Abs.und Try.prog 190 = .struct #[⟨ "_interface", 17, 0, false, "", "runtime", 0⟩, ⟨ "concrete", 17, 1, false, "", "runtime", 8⟩, ⟨ "asserted", 17, 2, false, "", "runtime", 16⟩, ⟨ "missingMethod", 9, 3, false, "", "runtime", 24⟩] := by kernel_rfl
@[go_sem] theorem Try.siz190 : Go.Abs.siz Try.prog 190 = some 4 := by kernel_rfl
@[go_sem] theorem Try.byt190 : Go.Abs.byt Try.prog 190 = some 40 := by kernel_rfl
@[go_sem] theorem Try.azero190 : Go.Abs.aZero Try.prog 190 = some (4, .agg [.v (.pointer none), .v (.pointer none), .v (.pointer none), .v (.string ByteArray.empty)]) := by kernel_rfl
@[go_sem] theorem Try.zer190 : Go.Abs.zer Try.prog 190 = some (.agg [.v (.pointer none), .v (.pointer none), .v (.pointer none), .v (.string ByteArray.empty)]) := by kernel_rfl
@[go_sem] theorem Try.plainSrc190 : Go.Abs.plainSrc Try.prog 190 = false := by kernel_rfl
@[go_sem] theorem Try.fld190_0 : Go.Abs.fld Try.prog 190 0 = some (0, 1, false) := by kernel_rfl
@[go_sem] theorem Try.fld190_1 : Go.Abs.fld Try.prog 190 1 = some (1, 1, false) := by kernel_rfl
@[go_sem] theorem Try.fld190_2 : Go.Abs.fld Try.prog 190 2 = some (2, 1, false) := by kernel_rfl
@[go_sem] theorem Try.fld190_3 : Go.Abs.fld Try.prog 190 3 = some (3, 1, false) := by kernel_rfl
@[go_sem] theorem Try.und191 : Go.Abs.und Try.prog 191 = .array 0 16 := by kernel_rfl
@[go_sem] theorem Try.siz191 : Go.Abs.siz Try.prog 191 = some 0 := by kernel_rfl
@[go_sem] theorem Try.byt191 : Go.Abs.byt Try.prog 191 = some 0 := by kernel_rfl
@[go_sem] theorem Try.azero191 : Go.Abs.aZero Try.prog 191 = some (0, .agg []) := by kernel_rfl
@[go_sem] theorem Try.zer191 : Go.Abs.zer Try.prog 191 = some (.agg []) := by kernel_rfl
@[go_sem] theorem Try.plainSrc191 : Go.Abs.plainSrc Try.prog 191 = false := by kernel_rfl
@[go_sem] theorem Try.und192 : Go.Abs.und Try.prog 192 = .struct #[⟨ "_", 191, 0, false, "", "runtime", 0⟩] := by kernel_rfl
@[go_sem] theorem Try.siz192 : Go.Abs.siz Try.prog 192 = some 0 := by kernel_rfl
@[go_sem] theorem Try.byt192 : Go.Abs.byt Try.prog 192 = some 0 := by kernel_rfl
@[go_sem] theorem Try.azero192 : Go.Abs.aZero Try.prog 192 = some (0, .agg []) := by kernel_rfl
@[go_sem] theorem Try.zer192 : Go.Abs.zer Try.prog 192 = some (.agg []) := by kernel_rfl
@[go_sem] theorem Try.plainSrc192 : Go.Abs.plainSrc Try.prog 192 = false := by kernel_rfl
@[go_sem] theorem Try.fld192_0 : Go.Abs.fld Try.prog 192 0 = some (0, 0, true) := by kernel_rfl
@[go_sem] theorem Try.und193 : Go.Abs.und Try.prog 193 = .struct #[⟨ "_", 191, 0, false, "", "runtime", 0⟩] := by kernel_rfl
@[go_sem] theorem Try.siz193 : Go.Abs.siz Try.prog 193 = some 0 := by kernel_rfl
@[go_sem] theorem Try.byt193 : Go.Abs.byt Try.prog 193 = some 0 := by kernel_rfl
@[go_sem] theorem Try.azero193 : Go.Abs.aZero Try.prog 193 = some (0, .agg []) := by kernel_rfl
@[go_sem] theorem Try.zer193 : Go.Abs.zer Try.prog 193 = some (.agg []) := by kernel_rfl
@[go_sem] theorem Try.plainSrc193 : Go.Abs.plainSrc Try.prog 193 = false := by kernel_rfl
@[go_sem] theorem Try.fld193_0 : Go.Abs.fld Try.prog 193 0 = some (0, 0, true) := by kernel_rfl
@[go_sem] theorem Try.und195 : Go.Abs.und Try.prog 195 = .int .u8 := by kernel_rfl
@[go_sem] theorem Try.siz195 : Go.Abs.siz Try.prog 195 = some 1 := by kernel_rfl
@[go_sem] theorem Try.byt195 : Go.Abs.byt Try.prog 195 = some 1 := by kernel_rfl
@[go_sem] theorem Try.azero195 : Go.Abs.aZero Try.prog 195 = some (1, .v (.int .u8 0)) := by kernel_rfl
@[go_sem] theorem Try.zer195 : Go.Abs.zer Try.prog 195 = some (.v (.int .u8 0)) := by kernel_rfl
@[go_sem] theorem Try.plainSrc195 : Go.Abs.plainSrc Try.prog 195 = false := by kernel_rfl
@[go_sem] theorem Try.und196 : Go.Abs.und Try.prog 196 = .int .u8 := by kernel_rfl
@[go_sem] theorem Try.siz196 : Go.Abs.siz Try.prog 196 = some 1 := by kernel_rfl
@[go_sem] theorem Try.byt196 : Go.Abs.byt Try.prog 196 = some 1 := by kernel_rfl
@[go_sem] theorem Try.azero196 : Go.Abs.aZero Try.prog 196 = some (1, .v (.int .u8 0)) := by kernel_rfl
@[go_sem] theorem Try.zer196 : Go.Abs.zer Try.prog 196 = some (.v (.int .u8 0)) := by kernel_rfl
@[go_sem] theorem Try.plainSrc196 : Go.Abs.plainSrc Try.prog 196 = false := by kernel_rfl
@[go_sem] theorem Try.und198 : Go.Abs.und Try.prog 198 = .pointer 5 := by kernel_rfl
@[go_sem] theorem Try.siz198 : Go.Abs.siz Try.prog 198 = some 1 := by kernel_rfl
@[go_sem] theorem Try.byt198 : Go.Abs.byt Try.prog 198 = some 8 := by kernel_rfl
@[go_sem] theorem Try.azero198 : Go.Abs.aZero Try.prog 198 = some (1, .v (.pointer none)) := by kernel_rfl
@[go_sem] theorem Try.zer198 : Go.Abs.zer Try.prog 198 = some (.v (.pointer none)) := by kernel_rfl
@[go_sem] theorem Try.plainSrc198 : Go.Abs.plainSrc Try.prog 198 = false := by kernel_rfl
@[go_sem] theorem Try.und199 : Go.Abs.und Try.prog 199 = .int .i32 := by kernel_rfl
@[go_sem] theorem Try.siz199 : Go.Abs.siz Try.prog 199 = some 1 := by kernel_rfl
@[go_sem] theorem Try.byt199 : Go.Abs.byt Try.prog 199 = some 4 := by kernel_rfl
@[go_sem] theorem Try.azero199 : Go.Abs.aZero Try.prog 199 = some (1, .v (.int .i32 0)) := by kernel_rfl
@[go_sem] theorem Try.zer199 : Go.Abs.zer Try.prog 199 = some (.v (.int .i32 0)) := by kernel_rfl
@[go_sem] theorem Try.plainSrc199 : Go.Abs.plainSrc Try.prog 199 = false := by kernel_rfl
@[go_sem] theorem Try.und200 : Go.Abs.und Try.prog 200 = .int .i32 := by kernel_rfl
@[go_sem] theorem Try.siz200 : Go.Abs.siz Try.prog 200 = some 1 := by kernel_rfl
@[go_sem] theorem Try.byt200 : Go.Abs.byt Try.prog 200 = some 4 := by kernel_rfl
@[go_sem] theorem Try.azero200 : Go.Abs.aZero Try.prog 200 = some (1, .v (.int .i32 0)) := by kernel_rfl
@[go_sem] theorem Try.zer200 : Go.Abs.zer Try.prog 200 = some (.v (.int .i32 0)) := by kernel_rfl
@[go_sem] theorem Try.plainSrc200 : Go.Abs.plainSrc Try.prog 200 = false := by kernel_rfl
@[go_sem] theorem Try.und201 : Go.Abs.und Try.prog 201 = .struct #[⟨ "Size_", 12, 0, false, "", "", 0⟩, ⟨ "PtrBytes", 12, 1, false, "", "", 8⟩, ⟨ "Hash", 128, 2, false, "", "", 16⟩, ⟨ "TFlag", 195, 3, false, "", "", 20⟩, ⟨ "Align_", 5, 4, false, "", "", 21⟩, ⟨ "FieldAlign_", 5, 5, false, "", "", 22⟩, ⟨ "Kind_", 196, 6, false, "", "", 23⟩, ⟨ "Equal", 197, 7, false, "", "", 24⟩, ⟨ "GCData", 198, 8, false, "", "", 32⟩, ⟨ "Str", 199, 9, false, "", "", 40⟩, ⟨ "PtrToThis", 200, 10, false, "", "", 44⟩] := by kernel_rfl
@[go_sem] theorem Try.siz201 : Go.Abs.siz Try.prog 201 = some 11 := by kernel_rfl
@[go_sem] theorem Try.byt201 : Go.Abs.byt Try.prog 201 = some 48 := by kernel_rfl
@[go_sem] theorem Try.azero201 : Go.Abs.aZero Try.prog 201 = some (11, .agg [.v (.int .u64 0), .v (.int .u64 0), .v (.int .u32 0), .v (.int .u8 0), .v (.int .u8 0), .v (.int .u8 0), .v (.int .u8 0), .v (.nilFunc), .v (.pointer none), .v (.int .i32 0), .v (.int .i32 0)]) := by kernel_rfl
@[go_sem] theorem Try.zer201 : Go.Abs.zer Try.prog 201 = some (.agg [.v (.int .u64 0), .v (.int .u64 0), .v (.int .u32 0), .v (.int .u8 0), .v (.int .u8 0), .v (.int .u8 0), .v (.int .u8 0), .v (.nilFunc), .v (.pointer none), .v (.int .i32 0), .v (.int .i32 0)]) := by kernel_rfl
@[go_sem] theorem Try.plainSrc201 : Go.Abs.plainSrc Try.prog 201 = false := by kernel_rfl
@[go_sem] theorem Try.fld201_0 : Go.Abs.fld Try.prog 201 0 = some (0, 1, false) := by kernel_rfl
@[go_sem] theorem Try.fld201_1 : Go.Abs.fld Try.prog 201 1 = some (1, 1, false) := by kernel_rfl
@[go_sem] theorem Try.fld201_2 : Go.Abs.fld Try.prog 201 2 = some (2, 1, false) := by kernel_rfl
@[go_sem] theorem Try.fld201_3 : Go.Abs.fld Try.prog 201 3 = some (3, 1, false) := by kernel_rfl
@[go_sem] theorem Try.fld201_4 : Go.Abs.fld Try.prog 201 4 = some (4, 1, false) := by kernel_rfl
@[go_sem] theorem Try.fld201_5 : Go.Abs.fld Try.prog 201 5 = some (5, 1, false) := by kernel_rfl
@[go_sem] theorem Try.fld201_6 : Go.Abs.fld Try.prog 201 6 = some (6, 1, false) := by kernel_rfl
@[go_sem] theorem Try.fld201_7 : Go.Abs.fld Try.prog 201 7 = some (7, 1, false) := by kernel_rfl
@[go_sem] theorem Try.fld201_8 : Go.Abs.fld Try.prog 201 8 = some (8, 1, false) := by kernel_rfl
@[go_sem] theorem Try.fld201_9 : Go.Abs.fld Try.prog 201 9 = some (9, 1, false) := by kernel_rfl
@[go_sem] theorem Try.fld201_10 : Go.Abs.fld Try.prog 201 10 = some (10, 1, false) := by kernel_rfl
@[go_sem] theorem Try.und202 : Go.Abs.und Try.prog 202 = .struct #[⟨ "Size_", 12, 0, false, "", "", 0⟩, ⟨ "PtrBytes", 12, 1, false, "", "", 8⟩, ⟨ "Hash", 128, 2, false, "", "", 16⟩, ⟨ "TFlag", 195, 3, false, "", "", 20⟩, ⟨ "Align_", 5, 4, false, "", "", 21⟩, ⟨ "FieldAlign_", 5, 5, false, "", "", 22⟩, ⟨ "Kind_", 196, 6, false, "", "", 23⟩, ⟨ "Equal", 197, 7, false, "", "", 24⟩, ⟨ "GCData", 198, 8, false, "", "", 32⟩, ⟨ "Str", 199, 9, false, "", "", 40⟩, ⟨ "PtrToThis", 200, 10, false, "", "", 44⟩] := by kernel_rfl
@[go_sem] theorem Try.siz202 : Go.Abs.siz Try.prog 202 = some 11 := by kernel_rfl
@[go_sem] theorem Try.byt202 : Go.Abs.byt Try.prog 202 = some 48 := by kernel_rfl
@[go_sem] theorem Try.azero202 : Go.Abs.aZero Try.prog 202 = some (11, .agg [.v (.int .u64 0), .v (.int .u64 0), .v (.int .u32 0), .v (.int .u8 0), .v (.int .u8 0), .v (.int .u8 0), .v (.int .u8 0), .v (.nilFunc), .v (.pointer none), .v (.int .i32 0), .v (.int .i32 0)]) := by kernel_rfl
@[go_sem] theorem Try.zer202 : Go.Abs.zer Try.prog 202 = some (.agg [.v (.int .u64 0), .v (.int .u64 0), .v (.int .u32 0), .v (.int .u8 0), .v (.int .u8 0), .v (.int .u8 0), .v (.int .u8 0), .v (.nilFunc), .v (.pointer none), .v (.int .i32 0), .v (.int .i32 0)]) := by kernel_rfl
@[go_sem] theorem Try.plainSrc202 : Go.Abs.plainSrc Try.prog 202 = false := by kernel_rfl
@[go_sem] theorem Try.fld202_0 : Go.Abs.fld Try.prog 202 0 = some (0, 1, false) := by kernel_rfl
@[go_sem] theorem Try.fld202_1 : Go.Abs.fld Try.prog 202 1 = some (1, 1, false) := by kernel_rfl
@[go_sem] theorem Try.fld202_2 : Go.Abs.fld Try.prog 202 2 = some (2, 1, false) := by kernel_rfl
@[go_sem] theorem Try.fld202_3 : Go.Abs.fld Try.prog 202 3 = some (3, 1, false) := by kernel_rfl
@[go_sem] theorem Try.fld202_4 : Go.Abs.fld Try.prog 202 4 = some (4, 1, false) := by kernel_rfl
@[go_sem] theorem Try.fld202_5 : Go.Abs.fld Try.prog 202 5 = some (5, 1, false) := by kernel_rfl
@[go_sem] theorem Try.fld202_6 : Go.Abs.fld Try.prog 202 6 = some (6, 1, false) := by kernel_rfl
@[go_sem] theorem Try.fld202_7 : Go.Abs.fld Try.prog 202 7 = some (7, 1, false) := by kernel_rfl
@[go_sem] theorem Try.fld202_8 : Go.Abs.fld Try.prog 202 8 = some (8, 1, false) := by kernel_rfl
@[go_sem] theorem Try.fld202_9 : Go.Abs.fld Try.prog 202 9 = some (9, 1, false) := by kernel_rfl
@[go_sem] theorem Try.fld202_10 : Go.Abs.fld Try.prog 202 10 = some (10, 1, false) := by kernel_rfl
@[go_sem] theorem Try.und203 : Go.Abs.und Try.prog 203 = .unsafePointer := by kernel_rfl
@[go_sem] theorem Try.siz203 : Go.Abs.siz Try.prog 203 = some 1 := by kernel_rfl
@[go_sem] theorem Try.byt203 : Go.Abs.byt Try.prog 203 = some 8 := by kernel_rfl
@[go_sem] theorem Try.azero203 : Go.Abs.aZero Try.prog 203 = some (1, .v (.pointer none)) := by kernel_rfl
@[go_sem] theorem Try.zer203 : Go.Abs.zer Try.prog 203 = some (.v (.pointer none)) := by kernel_rfl
@[go_sem] theorem Try.plainSrc203 : Go.Abs.plainSrc Try.prog 203 = false := by kernel_rfl
end Go.Proofs
