import Derived.Test.YtpoeicdhlhhimaaAbE
import Derived.Test.YtpoeicdhlhhimaaProg
set_option linter.all false
namespace Go.Proofs
@[go_sem] theorem Try.und2 : Go.Abs.und Try.prog 2 = .int .i64 := by kernel_rfl
@[go_sem] theorem Try.siz2 : Go.Abs.siz Try.prog 2 = some 1 := by kernel_rfl
@[go_sem] theorem Try.byt2 : Go.Abs.byt Try.prog 2 = some 8 := by kernel_rfl
@[go_sem] theorem Try.azero2 : Go.Abs.aZero Try.prog 2 = some (1, .v (.int .i64 0)) := by kernel_rfl
@[go_sem] theorem Try.zer2 : Go.Abs.zer Try.prog 2 = some (.v (.int .i64 0)) := by kernel_rfl
@[go_sem] theorem Try.plainSrc2 : Go.Abs.plainSrc Try.prog 2 = false := by kernel_rfl
@[go_sem] theorem Try.und3 : Go.Abs.und Try.prog 3 = .int .i64 := by kernel_rfl
@[go_sem] theorem Try.siz3 : Go.Abs.siz Try.prog 3 = some 1 := by kernel_rfl
@[go_sem] theorem Try.byt3 : Go.Abs.byt Try.prog 3 = some 8 := by kernel_rfl
@[go_sem] theorem Try.azero3 : Go.Abs.aZero Try.prog 3 = some (1, .v (.int .i64 0)) := by kernel_rfl
@[go_sem] theorem Try.zer3 : Go.Abs.zer Try.prog 3 = some (.v (.int .i64 0)) := by kernel_rfl
@[go_sem] theorem Try.plainSrc3 : Go.Abs.plainSrc Try.prog 3 = false := by kernel_rfl
@[go_sem] theorem Try.und4 : Go.Abs.und Try.prog 4 = .bool := by kernel_rfl
@[go_sem] theorem Try.siz4 : Go.Abs.siz Try.prog 4 = some 1 := by kernel_rfl
@[go_sem] theorem Try.byt4 : Go.Abs.byt Try.prog 4 = some 1 := by kernel_rfl
@[go_sem] theorem Try.azero4 : Go.Abs.aZero Try.prog 4 = some (1, .v (.bool false)) := by kernel_rfl
@[go_sem] theorem Try.zer4 : Go.Abs.zer Try.prog 4 = some (.v (.bool false)) := by kernel_rfl
@[go_sem] theorem Try.plainSrc4 : Go.Abs.plainSrc Try.prog 4 = false := by kernel_rfl
@[go_sem] theorem Try.und5 : Go.Abs.und Try.prog 5 = .int .u8 := by kernel_rfl
@[go_sem] theorem Try.siz5 : Go.Abs.siz Try.prog 5 = some 1 := by kernel_rfl
@[go_sem] theorem Try.byt5 : Go.Abs.byt Try.prog 5 = some 1 := by kernel_rfl
@[go_sem] theorem Try.azero5 : Go.Abs.aZero Try.prog 5 = some (1, .v (.int .u8 0)) := by kernel_rfl
@[go_sem] theorem Try.zer5 : Go.Abs.zer Try.prog 5 = some (.v (.int .u8 0)) := by kernel_rfl
@[go_sem] theorem Try.plainSrc5 : Go.Abs.plainSrc Try.prog 5 = false := by kernel_rfl
@[go_sem] theorem Try.und6 : Go.Abs.und Try.prog 6 = .int .u8 := by kernel_rfl
@[go_sem] theorem Try.siz6 : Go.Abs.siz Try.prog 6 = some 1 := by kernel_rfl
@[go_sem] theorem Try.byt6 : Go.Abs.byt Try.prog 6 = some 1 := by kernel_rfl
@[go_sem] theorem Try.azero6 : Go.Abs.aZero Try.prog 6 = some (1, .v (.int .u8 0)) := by kernel_rfl
@[go_sem] theorem Try.zer6 : Go.Abs.zer Try.prog 6 = some (.v (.int .u8 0)) := by kernel_rfl
@[go_sem] theorem Try.plainSrc6 : Go.Abs.plainSrc Try.prog 6 = false := by kernel_rfl
@[go_sem] theorem Try.und7 : Go.Abs.und Try.prog 7 = .struct #[⟨ "x", 2, 0, false, "", "runtime", 0⟩, ⟨ "y", 3, 1, false, "", "runtime", 8⟩, ⟨ "signed", 4, 2, false, "", "runtime", 16⟩, ⟨ "code", 6, 3, false, "", "runtime", 17⟩] := by kernel_rfl
@[go_sem] theorem Try.siz7 : Go.Abs.siz Try.prog 7 = some 4 := by kernel_rfl
@[go_sem] theorem Try.byt7 : Go.Abs.byt Try.prog 7 = some 24 := by kernel_rfl
@[go_sem] theorem Try.azero7 : Go.Abs.aZero Try.prog 7 = some (4, .agg [.v (.int .i64 0), .v (.int .i64 0), .v (.bool false), .v (.int .u8 0)]) := by kernel_rfl
@[go_sem] theorem Try.zer7 : Go.Abs.zer Try.prog 7 = some (.agg [.v (.int .i64 0), .v (.int .i64 0), .v (.bool false), .v (.int .u8 0)]) := by kernel_rfl
@[go_sem] theorem Try.plainSrc7 : Go.Abs.plainSrc Try.prog 7 = false := by kernel_rfl
@[go_sem] theorem Try.fld7_0 : Go.Abs.fld Try.prog 7 0 = some (0, 1, false) := by kernel_rfl
@[go_sem] theorem Try.fld7_1 : Go.Abs.fld Try.prog 7 1 = some (1, 1, false) := by kernel_rfl
@[go_sem] theorem Try.fld7_2 : Go.Abs.fld Try.prog 7 2 = some (2, 1, false) := by kernel_rfl
@[go_sem] theorem Try.fld7_3 : Go.Abs.fld Try.prog 7 3 = some (3, 1, false) := by kernel_rfl
@[go_sem] theorem Try.und8 : Go.Abs.und Try.prog 8 = .struct #[⟨ "x", 2, 0, false, "", "runtime", 0⟩, ⟨ "y", 3, 1, false, "", "runtime", 8⟩, ⟨ "signed", 4, 2, false, "", "runtime", 16⟩, ⟨ "code", 6, 3, false, "", "runtime", 17⟩] := by kernel_rfl
@[go_sem] theorem Try.siz8 : Go.Abs.siz Try.prog 8 = some 4 := by kernel_rfl
@[go_sem] theorem Try.byt8 : Go.Abs.byt Try.prog 8 = some 24 := by kernel_rfl
@[go_sem] theorem Try.azero8 : Go.Abs.aZero Try.prog 8 = some (4, .agg [.v (.int .i64 0), .v (.int .i64 0), .v (.bool false), .v (.int .u8 0)]) := by kernel_rfl
@[go_sem] theorem Try.zer8 : Go.Abs.zer Try.prog 8 = some (.agg [.v (.int .i64 0), .v (.int .i64 0), .v (.bool false), .v (.int .u8 0)]) := by kernel_rfl
@[go_sem] theorem Try.plainSrc8 : Go.Abs.plainSrc Try.prog 8 = false := by kernel_rfl
@[go_sem] theorem Try.fld8_0 : Go.Abs.fld Try.prog 8 0 = some (0, 1, false) := by kernel_rfl
@[go_sem] theorem Try.fld8_1 : Go.Abs.fld Try.prog 8 1 = some (1, 1, false) := by kernel_rfl
@[go_sem] theorem Try.fld8_2 : Go.Abs.fld Try.prog 8 2 = some (2, 1, false) := by kernel_rfl
@[go_sem] theorem Try.fld8_3 : Go.Abs.fld Try.prog 8 3 = some (3, 1, false) := by kernel_rfl
@[go_sem] theorem Try.und9 : Go.Abs.und Try.prog 9 = .string := by kernel_rfl
@[go_sem] theorem Try.siz9 : Go.Abs.siz Try.prog 9 = some 1 := by kernel_rfl
@[go_sem] theorem Try.byt9 : Go.Abs.byt Try.prog 9 = some 16 := by kernel_rfl
@[go_sem] theorem Try.azero9 : Go.Abs.aZero Try.prog 9 = some (1, .v (.string ByteArray.empty)) := by kernel_rfl
@[go_sem] theorem Try.zer9 : Go.Abs.zer Try.prog 9 = some (.v (.string ByteArray.empty)) := by kernel_rfl
@[go_sem] theorem Try.plainSrc9 : Go.Abs.plainSrc Try.prog 9 = true := by kernel_rfl
@[go_sem] theorem Try.und10 : Go.Abs.und Try.prog 10 = .string := by kernel_rfl
@[go_sem] theorem Try.siz10 : Go.Abs.siz Try.prog 10 = some 1 := by kernel_rfl
@[go_sem] theorem Try.byt10 : Go.Abs.byt Try.prog 10 = some 16 := by kernel_rfl
@[go_sem] theorem Try.azero10 : Go.Abs.aZero Try.prog 10 = some (1, .v (.string ByteArray.empty)) := by kernel_rfl
@[go_sem] theorem Try.zer10 : Go.Abs.zer Try.prog 10 = some (.v (.string ByteArray.empty)) := by kernel_rfl
@[go_sem] theorem Try.plainSrc10 : Go.Abs.plainSrc Try.prog 10 = true := by kernel_rfl
@[go_sem] theorem Try.und11 : Go.Abs.und Try.prog 11 = .string := by kernel_rfl
@[go_sem] theorem Try.siz11 : Go.Abs.siz Try.prog 11 = some 1 := by kernel_rfl
@[go_sem] theorem Try.byt11 : Go.Abs.byt Try.prog 11 = some 16 := by kernel_rfl
@[go_sem] theorem Try.azero11 : Go.Abs.aZero Try.prog 11 = some (1, .v (.string ByteArray.empty)) := by kernel_rfl
@[go_sem] theorem Try.zer11 : Go.Abs.zer Try.prog 11 = some (.v (.string ByteArray.empty)) := by kernel_rfl
@[go_sem] theorem Try.plainSrc11 : Go.Abs.plainSrc Try.prog 11 = true := by kernel_rfl
@[go_sem] theorem Try.und12 : Go.Abs.und Try.prog 12 = .int .u64 := by kernel_rfl
@[go_sem] theorem Try.siz12 : Go.Abs.siz Try.prog 12 = some 1 := by kernel_rfl
@[go_sem] theorem Try.byt12 : Go.Abs.byt Try.prog 12 = some 8 := by kernel_rfl
@[go_sem] theorem Try.azero12 : Go.Abs.aZero Try.prog 12 = some (1, .v (.int .u64 0)) := by kernel_rfl
@[go_sem] theorem Try.zer12 : Go.Abs.zer Try.prog 12 = some (.v (.int .u64 0)) := by kernel_rfl
@[go_sem] theorem Try.plainSrc12 : Go.Abs.plainSrc Try.prog 12 = false := by kernel_rfl
@[go_sem] theorem Try.und13 : Go.Abs.und Try.prog 13 = .struct #[⟨ "msg", 9, 0, false, "", "runtime", 0⟩, ⟨ "addr", 12, 1, false, "", "runtime", 16⟩] := by kernel_rfl
@[go_sem] theorem Try.siz13 : Go.Abs.siz Try.prog 13 = some 2 := by kernel_rfl
@[go_sem] theorem Try.byt13 : Go.Abs.byt Try.prog 13 = some 24 := by kernel_rfl
@[go_sem] theorem Try.azero13 : Go.Abs.aZero Try.prog 13 = some (2, .agg [.v (.string ByteArray.empty), .v (.int .u64 0)]) := by kernel_rfl
@[go_sem] theorem Try.zer13 : Go.Abs.zer Try.prog 13 = some (.agg [.v (.string ByteArray.empty), .v (.int .u64 0)]) := by kernel_rfl
@[go_sem] theorem Try.plainSrc13 : Go.Abs.plainSrc Try.prog 13 = false := by kernel_rfl
@[go_sem] theorem Try.fld13_0 : Go.Abs.fld Try.prog 13 0 = some (0, 1, false) := by kernel_rfl
@[go_sem] theorem Try.fld13_1 : Go.Abs.fld Try.prog 13 1 = some (1, 1, false) := by kernel_rfl
@[go_sem] theorem Try.und14 : Go.Abs.und Try.prog 14 = .struct #[⟨ "msg", 9, 0, false, "", "runtime", 0⟩, ⟨ "addr", 12, 1, false, "", "runtime", 16⟩] := by kernel_rfl
@[go_sem] theorem Try.siz14 : Go.Abs.siz Try.prog 14 = some 2 := by kernel_rfl
@[go_sem] theorem Try.byt14 : Go.Abs.byt Try.prog 14 = some 24 := by kernel_rfl
@[go_sem] theorem Try.azero14 : Go.Abs.aZero Try.prog 14 = some (2, .agg [.v (.string ByteArray.empty), .v (.int .u64 0)]) := by kernel_rfl
@[go_sem] theorem Try.zer14 : Go.Abs.zer Try.prog 14 = some (.agg [.v (.string ByteArray.empty), .v (.int .u64 0)]) := by kernel_rfl
@[go_sem] theorem Try.plainSrc14 : Go.Abs.plainSrc Try.prog 14 = false := by kernel_rfl
@[go_sem] theorem Try.fld14_0 : Go.Abs.fld Try.prog 14 0 = some (0, 1, false) := by kernel_rfl
@[go_sem] theorem Try.fld14_1 : Go.Abs.fld Try.prog 14 1 = some (1, 1, false) := by kernel_rfl
@[go_sem] theorem Try.und15 : Go.Abs.und Try.prog 15 = .pointer 103 := by kernel_rfl
@[go_sem] theorem Try.siz15 : Go.Abs.siz Try.prog 15 = some 1 := by kernel_rfl
@[go_sem] theorem Try.byt15 : Go.Abs.byt Try.prog 15 = some 8 := by kernel_rfl
@[go_sem] theorem Try.azero15 : Go.Abs.aZero Try.prog 15 = some (1, .v (.pointer none)) := by kernel_rfl
@[go_sem] theorem Try.zer15 : Go.Abs.zer Try.prog 15 = some (.v (.pointer none)) := by kernel_rfl
@[go_sem] theorem Try.plainSrc15 : Go.Abs.plainSrc Try.prog 15 = false := by kernel_rfl
@[go_sem] theorem Try.und16 : Go.Abs.und Try.prog 16 = .pointer 106 := by kernel_rfl
@[go_sem] theorem Try.siz16 : Go.Abs.siz Try.prog 16 = some 1 := by kernel_rfl
@[go_sem] theorem Try.byt16 : Go.Abs.byt Try.prog 16 = some 8 := by kernel_rfl
@[go_sem] theorem Try.azero16 : Go.Abs.aZero Try.prog 16 = some (1, .v (.pointer none)) := by kernel_rfl
@[go_sem] theorem Try.zer16 : Go.Abs.zer Try.prog 16 = some (.v (.pointer none)) := by kernel_rfl
@[go_sem] theorem Try.plainSrc16 : Go.Abs.plainSrc Try.prog 16 = false := by kernel_rfl
@[go_sem] theorem Try.und17 : Go.Abs.und Try.prog 17 = .pointer 115 := by kernel_rfl
@[go_sem] theorem Try.siz17 : Go.Abs.siz Try.prog 17 = some 1 := by kernel_rfl
@[go_sem] theorem Try.byt17 : Go.Abs.byt Try.prog 17 = some 8 := by kernel_rfl
@[go_sem] theorem Try.azero17 : Go.Abs.aZero Try.prog 17 = some (1, .v (.pointer none)) := by kernel_rfl
@[go_sem] theorem Try.zer17 : Go.Abs.zer Try.prog 17 = some (.v (.pointer none)) := by kernel_rfl
@[go_sem] theorem Try.plainSrc17 : Go.Abs.plainSrc Try.prog 17 = false := by kernel_rfl
@[go_sem] theorem Try.und18 : Go.Abs.und Try.prog 18 = .struct #[⟨ "typ", 17, 0, false, "", "internal/runtime/maps", 0⟩] := by kernel_rfl
@[go_sem] theorem Try.siz18 : Go.Abs.siz Try.prog 18 = some 1 := by kernel_rfl
@[go_sem] theorem Try.byt18 : Go.Abs.byt Try.prog 18 = some 8 := by kernel_rfl
@[go_sem] theorem Try.azero18 : Go.Abs.aZero Try.prog 18 = some (1, .agg [.v (.pointer none)]) := by kernel_rfl
@[go_sem] theorem Try.zer18 : Go.Abs.zer Try.prog 18 = some (.agg [.v (.pointer none)]) := by kernel_rfl
@[go_sem] theorem Try.plainSrc18 : Go.Abs.plainSrc Try.prog 18 = false := by kernel_rfl
@[go_sem] theorem Try.fld18_0 : Go.Abs.fld Try.prog 18 0 = some (0, 1, false) := by kernel_rfl
@[go_sem] theorem Try.und19 : Go.Abs.und Try.prog 19 = .struct #[⟨ "typ", 17, 0, false, "", "internal/runtime/maps", 0⟩] := by kernel_rfl
@[go_sem] theorem Try.siz19 : Go.Abs.siz Try.prog 19 = some 1 := by kernel_rfl
@[go_sem] theorem Try.byt19 : Go.Abs.byt Try.prog 19 = some 8 := by kernel_rfl
@[go_sem] theorem Try.azero19 : Go.Abs.aZero Try.prog 19 = some (1, .agg [.v (.pointer none)]) := by kernel_rfl
@[go_sem] theorem Try.zer19 : Go.Abs.zer Try.prog 19 = some (.agg [.v (.pointer none)]) := by kernel_rfl
@[go_sem] theorem Try.plainSrc19 : Go.Abs.plainSrc Try.prog 19 = false := by kernel_rfl
@[go_sem] theorem Try.fld19_0 : Go.Abs.fld Try.prog 19 0 = some (0, 1, false) := by kernel_rfl
@[go_sem] theorem Try.und21 : Go.Abs.und Try.prog 21 = .int .i32 := by kernel_rfl
@[go_sem] theorem Try.siz21 : Go.Abs.siz Try.prog 21 = some 1 := by kernel_rfl
@[go_sem] theorem Try.byt21 : Go.Abs.byt Try.prog 21 = some 4 := by kernel_rfl
@[go_sem] theorem Try.azero21 : Go.Abs.aZero Try.prog 21 = some (1, .v (.int .i32 0)) := by kernel_rfl
@[go_sem] theorem Try.zer21 : Go.Abs.zer Try.prog 21 = some (.v (.int .i32 0)) := by kernel_rfl
@[go_sem] theorem Try.plainSrc21 : Go.Abs.plainSrc Try.prog 21 = false := by kernel_rfl
@[go_sem] theorem Try.und22 : Go.Abs.und Try.prog 22 = .slice 34 := by kernel_rfl
@[go_sem] theorem Try.siz22 : Go.Abs.siz Try.prog 22 = some 1 := by kernel_rfl
@[go_sem] theorem Try.byt22 : Go.Abs.byt Try.prog 22 = some 24 := by kernel_rfl
@[go_sem] theorem Try.azero22 : Go.Abs.aZero Try.prog 22 = some (1, .v (.slice none 0 0)) := by kernel_rfl
@[go_sem] theorem Try.zer22 : Go.Abs.zer Try.prog 22 = some (.v (.slice none 0 0)) := by kernel_rfl
@[go_sem] theorem Try.plainSrc22 : Go.Abs.plainSrc Try.prog 22 = true := by kernel_rfl
@[go_sem] theorem Try.und23 : Go.Abs.und Try.prog 23 = .slice 42 := by kernel_rfl
@[go_sem] theorem Try.siz23 : Go.Abs.siz Try.prog 23 = some 1 := by kernel_rfl
@[go_sem] theorem Try.byt23 : Go.Abs.byt Try.prog 23 = some 24 := by kernel_rfl
@[go_sem] theorem Try.azero23 : Go.Abs.aZero Try.prog 23 = some (1, .v (.slice none 0 0)) := by kernel_rfl
@[go_sem] theorem Try.zer23 : Go.Abs.zer Try.prog 23 = some (.v (.slice none 0 0)) := by kernel_rfl
@[go_sem] theorem Try.plainSrc23 : Go.Abs.plainSrc Try.prog 23 = true := by kernel_rfl
@[go_sem] theorem Try.und24 : Go.Abs.und Try.prog 24 = .struct #[⟨ "Sizes", 22, 0, false, "", "", 0⟩, ⟨ "Live", 23, 1, false, "", "", 24⟩, ⟨ "Percent", 3, 2, false, "", "", 48⟩] := by kernel_rfl
@[go_sem] theorem Try.siz24 : Go.Abs.siz Try.prog 24 = some 3 := by kernel_rfl
@[go_sem] theorem Try.byt24 : Go.Abs.byt Try.prog 24 = some 56 := by kernel_rfl
@[go_sem] theorem Try.azero24 : Go.Abs.aZero Try.prog 24 = some (3, .agg [.v (.slice none 0 0), .v (.slice none 0 0), .v (.int .i64 0)]) := by kernel_rfl
@[go_sem] theorem Try.zer24 : Go.Abs.zer Try.prog 24 = some (.agg [.v (.slice none 0 0), .v (.slice none 0 0), .v (.int .i64 0)]) := by kernel_rfl
@[go_sem] theorem Try.plainSrc24 : Go.Abs.plainSrc Try.prog 24 = false := by kernel_rfl
@[go_sem] theorem Try.fld24_0 : Go.Abs.fld Try.prog 24 0 = some (0, 1, false) := by kernel_rfl
@[go_sem] theorem Try.fld24_1 : Go.Abs.fld Try.prog 24 1 = some (1, 1, false) := by kernel_rfl
@[go_sem] theorem Try.fld24_2 : Go.Abs.fld Try.prog 24 2 = some (2, 1, false) := by kernel_rfl
@[go_sem] theorem Try.und25 : Go.Abs.und Try.prog 25 = .struct #[⟨ "Sizes", 22, 0, false, "", "", 0⟩, ⟨ "Live", 23, 1, false, "", "", 24⟩, ⟨ "Percent", 3, 2, false, "", "", 48⟩] := by kernel_rfl
@[go_sem] theorem Try.siz25 : Go.Abs.siz Try.prog 25 = some 3 := by kernel_rfl
@[go_sem] theorem Try.byt25 : Go.Abs.byt Try.prog 25 = some 56 := by kernel_rfl
@[go_sem] theorem Try.azero25 : Go.Abs.aZero Try.prog 25 = some (3, .agg [.v (.slice none 0 0), .v (.slice none 0 0), .v (.int .i64 0)]) := by kernel_rfl
@[go_sem] theorem Try.zer25 : Go.Abs.zer Try.prog 25 = some (.agg [.v (.slice none 0 0), .v (.slice none 0 0), .v (.int .i64 0)]) := by kernel_rfl
@[go_sem] theorem Try.plainSrc25 : Go.Abs.plainSrc Try.prog 25 = false := by kernel_rfl
@[go_sem] theorem Try.fld25_0 : Go.Abs.fld Try.prog 25 0 = some (0, 1, false) := by kernel_rfl
@[go_sem] theorem Try.fld25_1 : Go.Abs.fld Try.prog 25 1 = some (1, 1, false) := by kernel_rfl
@[go_sem] theorem Try.fld25_2 : Go.Abs.fld Try.prog 25 2 = some (2, 1, false) := by kernel_rfl
@[go_sem] theorem Try.und27 : Go.Abs.und Try.prog 27 = .slice 3 := by kernel_rfl
@[go_sem] theorem Try.siz27 : Go.Abs.siz Try.prog 27 = some 1 := by kernel_rfl
@[go_sem] theorem Try.byt27 : Go.Abs.byt Try.prog 27 = some 24 := by kernel_rfl
@[go_sem] theorem Try.azero27 : Go.Abs.aZero Try.prog 27 = some (1, .v (.slice none 0 0)) := by kernel_rfl
@[go_sem] theorem Try.zer27 : Go.Abs.zer Try.prog 27 = some (.v (.slice none 0 0)) := by kernel_rfl
@[go_sem] theorem Try.plainSrc27 : Go.Abs.plainSrc Try.prog 27 = true := by kernel_rfl
@[go_sem] theorem Try.und28 : Go.Abs.und Try.prog 28 = .int .i64 := by kernel_rfl
@[go_sem] theorem Try.siz28 : Go.Abs.siz Try.prog 28 = some 1 := by kernel_rfl
@[go_sem] theorem Try.byt28 : Go.Abs.byt Try.prog 28 = some 8 := by kernel_rfl
@[go_sem] theorem Try.azero28 : Go.Abs.aZero Try.prog 28 = some (1, .v (.int .i64 0)) := by kernel_rfl
@[go_sem] theorem Try.zer28 : Go.Abs.zer Try.prog 28 = some (.v (.int .i64 0)) := by kernel_rfl
@[go_sem] theorem Try.plainSrc28 : Go.Abs.plainSrc Try.prog 28 = false := by kernel_rfl
@[go_sem] theorem Try.und33 : Go.Abs.und Try.prog 33 = .struct #[⟨ "File", 3, 0, false, "", "", 0⟩, ⟨ "Bytes", 3, 1, false, "", "", 8⟩] := by kernel_rfl
@[go_sem] theorem Try.siz33 : Go.Abs.siz Try.prog 33 = some 2 := by kernel_rfl
@[go_sem] theorem Try.byt33 : Go.Abs.byt Try.prog 33 = some 16 := by kernel_rfl
@[go_sem] theorem Try.azero33 : Go.Abs.aZero Try.prog 33 = some (2, .agg [.v (.int .i64 0), .v (.int .i64 0)]) := by kernel_rfl
@[go_sem] theorem Try.zer33 : Go.Abs.zer Try.prog 33 = some (.agg [.v (.int .i64 0), .v (.int .i64 0)]) := by kernel_rfl
@[go_sem] theorem Try.plainSrc33 : Go.Abs.plainSrc Try.prog 33 = false := by kernel_rfl
@[go_sem] theorem Try.fld33_0 : Go.Abs.fld Try.prog 33 0 = some (0, 1, false) := by kernel_rfl
@[go_sem] theorem Try.fld33_1 : Go.Abs.fld Try.prog 33 1 = some (1, 1, false) := by kernel_rfl
@[go_sem] theorem Try.und34 : Go.Abs.und Try.prog 34 = .struct #[⟨ "File", 3, 0, false, "", "", 0⟩, ⟨ "Bytes", 3, 1, false, "", "", 8⟩] := by kernel_rfl
@[go_sem] theorem Try.siz34 : Go.Abs.siz Try.prog 34 = some 2 := by kernel_rfl
@[go_sem] theorem Try.byt34 : Go.Abs.byt Try.prog 34 = some 16 := by kernel_rfl
@[go_sem] theorem Try.azero34 : Go.Abs.aZero Try.prog 34 = some (2, .agg [.v (.int .i64 0), .v (.int .i64 0)]) := by kernel_rfl
@[go_sem] theorem Try.zer34 : Go.Abs.zer Try.prog 34 = some (.agg [.v (.int .i64 0), .v (.int .i64 0)]) := by kernel_rfl
@[go_sem] theorem Try.plainSrc34 : Go.Abs.plainSrc Try.prog 34 = false := by kernel_rfl
@[go_sem] theorem Try.fld34_0 : Go.Abs.fld Try.prog 34 0 = some (0, 1, false) := by kernel_rfl
@[go_sem] theorem Try.fld34_1 : Go.Abs.fld Try.prog 34 1 = some (1, 1, false) := by kernel_rfl
@[go_sem] theorem Try.und36 : Go.Abs.und Try.prog 36 = .slice 44 := by kernel_rfl
@[go_sem] theorem Try.siz36 : Go.Abs.siz Try.prog 36 = some 1 := by kernel_rfl
@[go_sem] theorem Try.byt36 : Go.Abs.byt Try.prog 36 = some 24 := by kernel_rfl
@[go_sem] theorem Try.azero36 : Go.Abs.aZero Try.prog 36 = some (1, .v (.slice none 0 0)) := by kernel_rfl
@[go_sem] theorem Try.zer36 : Go.Abs.zer Try.prog 36 = some (.v (.slice none 0 0)) := by kernel_rfl
@[go_sem] theorem Try.plainSrc36 : Go.Abs.plainSrc Try.prog 36 = true := by kernel_rfl
@[go_sem] theorem Try.und40 : Go.Abs.und Try.prog 40 = .map 42 42 := by kernel_rfl
@[go_sem] theorem Try.siz40 : Go.Abs.siz Try.prog 40 = some 1 := by kernel_rfl
@[go_sem] theorem Try.byt40 : Go.Abs.byt Try.prog 40 = some 8 := by kernel_rfl
@[go_sem] theorem Try.azero40 : Go.Abs.aZero Try.prog 40 = some (1, .v (.map none)) := by kernel_rfl
@[go_sem] theorem Try.zer40 : Go.Abs.zer Try.prog 40 = some (.v (.map none)) := by kernel_rfl
@[go_sem] theorem Try.plainSrc40 : Go.Abs.plainSrc Try.prog 40 = false := by kernel_rfl
@[go_sem] theorem Try.und41 : Go.Abs.und Try.prog 41 = .struct #[⟨ "File", 3, 0, false, "", "", 0⟩, ⟨ "At", 3, 1, false, "", "", 8⟩, ⟨ "Long", 3, 2, false, "", "", 16⟩] := by kernel_rfl
@[go_sem] theorem Try.siz41 : Go.Abs.siz Try.prog 41 = some 3 := by kernel_rfl
@[go_sem] theorem Try.byt41 : Go.Abs.byt Try.prog 41 = some 24 := by kernel_rfl
@[go_sem] theorem Try.azero41 : Go.Abs.aZero Try.prog 41 = some (3, .agg [.v (.int .i64 0), .v (.int .i64 0), .v (.int .i64 0)]) := by kernel_rfl
@[go_sem] theorem Try.zer41 : Go.Abs.zer Try.prog 41 = some (.agg [.v (.int .i64 0), .v (.int .i64 0), .v (.int .i64 0)]) := by kernel_rfl
@[go_sem] theorem Try.plainSrc41 : Go.Abs.plainSrc Try.prog 41 = false := by kernel_rfl
@[go_sem] theorem Try.fld41_0 : Go.Abs.fld Try.prog 41 0 = some (0, 1, false) := by kernel_rfl
@[go_sem] theorem Try.fld41_1 : Go.Abs.fld Try.prog 41 1 = some (1, 1, false) := by kernel_rfl
@[go_sem] theorem Try.fld41_2 : Go.Abs.fld Try.prog 41 2 = some (2, 1, false) := by kernel_rfl
@[go_sem] theorem Try.und42 : Go.Abs.und Try.prog 42 = .struct #[⟨ "File", 3, 0, false, "", "", 0⟩, ⟨ "At", 3, 1, false, "", "", 8⟩, ⟨ "Long", 3, 2, false, "", "", 16⟩] := by kernel_rfl
@[go_sem] theorem Try.siz42 : Go.Abs.siz Try.prog 42 = some 3 := by kernel_rfl
@[go_sem] theorem Try.byt42 : Go.Abs.byt Try.prog 42 = some 24 := by kernel_rfl
@[go_sem] theorem Try.azero42 : Go.Abs.aZero Try.prog 42 = some (3, .agg [.v (.int .i64 0), .v (.int .i64 0), .v (.int .i64 0)]) := by kernel_rfl
@[go_sem] theorem Try.zer42 : Go.Abs.zer Try.prog 42 = some (.agg [.v (.int .i64 0), .v (.int .i64 0), .v (.int .i64 0)]) := by kernel_rfl
@[go_sem] theorem Try.plainSrc42 : Go.Abs.plainSrc Try.prog 42 = false := by kernel_rfl
@[go_sem] theorem Try.fld42_0 : Go.Abs.fld Try.prog 42 0 = some (0, 1, false) := by kernel_rfl
@[go_sem] theorem Try.fld42_1 : Go.Abs.fld Try.prog 42 1 = some (1, 1, false) := by kernel_rfl
@[go_sem] theorem Try.fld42_2 : Go.Abs.fld Try.prog 42 2 = some (2, 1, false) := by kernel_rfl
@[go_sem] theorem Try.und43 : Go.Abs.und Try.prog 43 = .struct #[⟨ "From", 42, 0, false, "", "", 0⟩, ⟨ "To", 42, 3, false, "", "", 24⟩] := by kernel_rfl
@[go_sem] theorem Try.siz43 : Go.Abs.siz Try.prog 43 = some 6 := by kernel_rfl
@[go_sem] theorem Try.byt43 : Go.Abs.byt Try.prog 43 = some 48 := by kernel_rfl
@[go_sem] theorem Try.azero43 : Go.Abs.aZero Try.prog 43 = some (6, .agg [.v (.int .i64 0), .v (.int .i64 0), .v (.int .i64 0), .v (.int .i64 0), .v (.int .i64 0), .v (.int .i64 0)]) := by kernel_rfl
@[go_sem] theorem Try.zer43 : Go.Abs.zer Try.prog 43 = some (.agg [.v (.int .i64 0), .v (.int .i64 0), .v (.int .i64 0), .v (.int .i64 0), .v (.int .i64 0), .v (.int .i64 0)]) := by kernel_rfl
@[go_sem] theorem Try.plainSrc43 : Go.Abs.plainSrc Try.prog 43 = false := by kernel_rfl
@[go_sem] theorem Try.fld43_0 : Go.Abs.fld Try.prog 43 0 = some (0, 3, true) := by kernel_rfl
@[go_sem] theorem Try.fld43_1 : Go.Abs.fld Try.prog 43 1 = some (3, 3, true) := by kernel_rfl
@[go_sem] theorem Try.und44 : Go.Abs.und Try.prog 44 = .struct #[⟨ "From", 42, 0, false, "", "", 0⟩, ⟨ "To", 42, 3, false, "", "", 24⟩] := by kernel_rfl
@[go_sem] theorem Try.siz44 : Go.Abs.siz Try.prog 44 = some 6 := by kernel_rfl
@[go_sem] theorem Try.byt44 : Go.Abs.byt Try.prog 44 = some 48 := by kernel_rfl
@[go_sem] theorem Try.azero44 : Go.Abs.aZero Try.prog 44 = some (6, .agg [.v (.int .i64 0), .v (.int .i64 0), .v (.int .i64 0), .v (.int .i64 0), .v (.int .i64 0), .v (.int .i64 0)]) := by kernel_rfl
@[go_sem] theorem Try.zer44 : Go.Abs.zer Try.prog 44 = some (.agg [.v (.int .i64 0), .v (.int .i64 0), .v (.int .i64 0), .v (.int .i64 0), .v (.int .i64 0), .v (.int .i64 0)]) := by kernel_rfl
@[go_sem] theorem Try.plainSrc44 : Go.Abs.plainSrc Try.prog 44 = false := by kernel_rfl
@[go_sem] theorem Try.fld44_0 : Go.Abs.fld Try.prog 44 0 = some (0, 3, true) := by kernel_rfl
@[go_sem] theorem Try.fld44_1 : Go.Abs.fld Try.prog 44 1 = some (3, 3, true) := by kernel_rfl
@[go_sem] theorem Try.und50 : Go.Abs.und Try.prog 50 = .slice 60 := by kernel_rfl
@[go_sem] theorem Try.siz50 : Go.Abs.siz Try.prog 50 = some 1 := by kernel_rfl
@[go_sem] theorem Try.byt50 : Go.Abs.byt Try.prog 50 = some 24 := by kernel_rfl
@[go_sem] theorem Try.azero50 : Go.Abs.aZero Try.prog 50 = some (1, .v (.slice none 0 0)) := by kernel_rfl
@[go_sem] theorem Try.zer50 : Go.Abs.zer Try.prog 50 = some (.v (.slice none 0 0)) := by kernel_rfl
@[go_sem] theorem Try.plainSrc50 : Go.Abs.plainSrc Try.prog 50 = true := by kernel_rfl
@[go_sem] theorem Try.und53 : Go.Abs.und Try.prog 53 = .map 3 3 := by kernel_rfl
@[go_sem] theorem Try.siz53 : Go.Abs.siz Try.prog 53 = some 1 := by kernel_rfl
@[go_sem] theorem Try.byt53 : Go.Abs.byt Try.prog 53 = some 8 := by kernel_rfl
@[go_sem] theorem Try.azero53 : Go.Abs.aZero Try.prog 53 = some (1, .v (.map none)) := by kernel_rfl
@[go_sem] theorem Try.zer53 : Go.Abs.zer Try.prog 53 = some (.v (.map none)) := by kernel_rfl
@[go_sem] theorem Try.plainSrc53 : Go.Abs.plainSrc Try.prog 53 = false := by kernel_rfl
@[go_sem] theorem Try.und60 : Go.Abs.und Try.prog 60 = .struct #[⟨ "File", 3, 0, false, "", "", 0⟩, ⟨ "At", 3, 1, false, "", "", 8⟩, ⟨ "Long", 3, 2, false, "", "", 16⟩] := by kernel_rfl
@[go_sem] theorem Try.siz60 : Go.Abs.siz Try.prog 60 = some 3 := by kernel_rfl
@[go_sem] theorem Try.byt60 : Go.Abs.byt Try.prog 60 = some 24 := by kernel_rfl
@[go_sem] theorem Try.azero60 : Go.Abs.aZero Try.prog 60 = some (3, .agg [.v (.int .i64 0), .v (.int .i64 0), .v (.int .i64 0)]) := by kernel_rfl
@[go_sem] theorem Try.zer60 : Go.Abs.zer Try.prog 60 = some (.agg [.v (.int .i64 0), .v (.int .i64 0), .v (.int .i64 0)]) := by kernel_rfl
@[go_sem] theorem Try.plainSrc60 : Go.Abs.plainSrc Try.prog 60 = false := by kernel_rfl
@[go_sem] theorem Try.fld60_0 : Go.Abs.fld Try.prog 60 0 = some (0, 1, false) := by kernel_rfl
@[go_sem] theorem Try.fld60_1 : Go.Abs.fld Try.prog 60 1 = some (1, 1, false) := by kernel_rfl
@[go_sem] theorem Try.fld60_2 : Go.Abs.fld Try.prog 60 2 = some (2, 1, false) := by kernel_rfl
@[go_sem] theorem Try.und68 : Go.Abs.und Try.prog 68 = .int .u64 := by kernel_rfl
@[go_sem] theorem Try.siz68 : Go.Abs.siz Try.prog 68 = some 1 := by kernel_rfl
@[go_sem] theorem Try.byt68 : Go.Abs.byt Try.prog 68 = some 8 := by kernel_rfl
@[go_sem] theorem Try.azero68 : Go.Abs.aZero Try.prog 68 = some (1, .v (.int .u64 0)) := by kernel_rfl
@[go_sem] theorem Try.zer68 : Go.Abs.zer Try.prog 68 = some (.v (.int .u64 0)) := by kernel_rfl
@[go_sem] theorem Try.plainSrc68 : Go.Abs.plainSrc Try.prog 68 = false := by kernel_rfl
@[go_sem] theorem Try.und73 : Go.Abs.und Try.prog 73 = .int .i64 := by kernel_rfl
@[go_sem] theorem Try.siz73 : Go.Abs.siz Try.prog 73 = some 1 := by kernel_rfl
@[go_sem] theorem Try.byt73 : Go.Abs.byt Try.prog 73 = some 8 := by kernel_rfl
@[go_sem] theorem Try.azero73 : Go.Abs.aZero Try.prog 73 = some (1, .v (.int .i64 0)) := by kernel_rfl
@[go_sem] theorem Try.zer73 : Go.Abs.zer Try.prog 73 = some (.v (.int .i64 0)) := by kernel_rfl
@[go_sem] theorem Try.plainSrc73 : Go.Abs.plainSrc Try.prog 73 = false := by kernel_rfl
@[go_sem] theorem Try.und81 : Go.Abs.und Try.prog 81 = .int .u32 := by kernel_rfl
@[go_sem] theorem Try.siz81 : Go.Abs.siz Try.prog 81 = some 1 := by kernel_rfl
@[go_sem] theorem Try.byt81 : Go.Abs.byt Try.prog 81 = some 4 := by kernel_rfl
@[go_sem] theorem Try.azero81 : Go.Abs.aZero Try.prog 81 = some (1, .v (.int .u32 0)) := by kernel_rfl
@[go_sem] theorem Try.zer81 : Go.Abs.zer Try.prog 81 = some (.v (.int .u32 0)) := by kernel_rfl
@[go_sem] theorem Try.plainSrc81 : Go.Abs.plainSrc Try.prog 81 = false := by kernel_rfl
@[go_sem] theorem Try.und83 : Go.Abs.und Try.prog 83 = .int .u64 := by kernel_rfl
@[go_sem] theorem Try.siz83 : Go.Abs.siz Try.prog 83 = some 1 := by kernel_rfl
@[go_sem] theorem Try.byt83 : Go.Abs.byt Try.prog 83 = some 8 := by kernel_rfl
@[go_sem] theorem Try.azero83 : Go.Abs.aZero Try.prog 83 = some (1, .v (.int .u64 0)) := by kernel_rfl
@[go_sem] theorem Try.zer83 : Go.Abs.zer Try.prog 83 = some (.v (.int .u64 0)) := by kernel_rfl
@[go_sem] theorem Try.plainSrc83 : Go.Abs.plainSrc Try.prog 83 = false := by kernel_rfl
@[go_sem] theorem Try.und89 : Go.Abs.und Try.prog 89 = .int .u64 := by kernel_rfl
@[go_sem] theorem Try.siz89 : Go.Abs.siz Try.prog 89 = some 1 := by kernel_rfl
@[go_sem] theorem Try.byt89 : Go.Abs.byt Try.prog 89 = some 8 := by kernel_rfl
@[go_sem] theorem Try.azero89 : Go.Abs.aZero Try.prog 89 = some (1, .v (.int .u64 0)) := by kernel_rfl
@[go_sem] theorem Try.zer89 : Go.Abs.zer Try.prog 89 = some (.v (.int .u64 0)) := by kernel_rfl
@[go_sem] theorem Try.plainSrc89 : Go.Abs.plainSrc Try.prog 89 = false := by kernel_rfl
@[go_sem] theorem Try.und93 : Go.Abs.und Try.prog 93 = .pointer 3 := by kernel_rfl
@[go_sem] theorem Try.siz93 : Go.Abs.siz Try.prog 93 = some 1 := by kernel_rfl
@[go_sem] theorem Try.byt93 : Go.Abs.byt Try.prog 93 = some 8 := by kernel_rfl
@[go_sem] theorem Try.azero93 : Go.Abs.aZero Try.prog 93 = some (1, .v (.pointer none)) := by kernel_rfl
@[go_sem] theorem Try.zer93 : Go.Abs.zer Try.prog 93 = some (.v (.pointer none)) := by kernel_rfl
@[go_sem] theorem Try.plainSrc93 : Go.Abs.plainSrc Try.prog 93 = false := by kernel_rfl
@[go_sem] theorem Try.und97 : Go.Abs.und Try.prog 97 = .pointer 89 := by kernel_rfl
@[go_sem] theorem Try.siz97 : Go.Abs.siz Try.prog 97 = some 1 := by kernel_rfl
@[go_sem] theorem Try.byt97 : Go.Abs.byt Try.prog 97 = some 8 := by kernel_rfl
@[go_sem] theorem Try.azero97 : Go.Abs.aZero Try.prog 97 = some (1, .v (.pointer none)) := by kernel_rfl
@[go_sem] theorem Try.zer97 : Go.Abs.zer Try.prog 97 = some (.v (.pointer none)) := by kernel_rfl
@[go_sem] theorem Try.plainSrc97 : Go.Abs.plainSrc Try.prog 97 = false := by kernel_rfl
@[go_sem] theorem Try.und102 : Go.Abs.und Try.prog 102 = .struct #[⟨ "_interface", 17, 0, false, "", "runtime", 0⟩, ⟨ "concrete", 17, 1, false, "", "runtime", 8⟩, ⟨ "asserted", 17, 2, false, "", "runtime", 16⟩, ⟨ "missingMethod", 9, 3, false, "", "runtime", 24⟩] := by kernel_rfl
@[go_sem] theorem Try.siz102 : Go.Abs.siz Try.prog 102 = some 4 := by kernel_rfl
@[go_sem] theorem Try.byt102 : Go.Abs.byt Try.prog 102 = some 40 := by kernel_rfl
@[go_sem] theorem Try.azero102 : Go.Abs.aZero Try.prog 102 = some (4, .agg [.v (.pointer none), .v (.pointer none), .v (.pointer none), .v (.string ByteArray.empty)]) := by kernel_rfl
@[go_sem] theorem Try.zer102 : Go.Abs.zer Try.prog 102 = some (.agg [.v (.pointer none), .v (.pointer none), .v (.pointer none), .v (.string ByteArray.empty)]) := by kernel_rfl
@[go_sem] theorem Try.plainSrc102 : Go.Abs.plainSrc Try.prog 102 = false := by kernel_rfl
@[go_sem] theorem Try.fld102_0 : Go.Abs.fld Try.prog 102 0 = some (0, 1, false) := by kernel_rfl
@[go_sem] theorem Try.fld102_1 : Go.Abs.fld Try.prog 102 1 = some (1, 1, false) := by kernel_rfl
@[go_sem] theorem Try.fld102_2 : Go.Abs.fld Try.prog 102 2 = some (2, 1, false) := by kernel_rfl
@[go_sem] theorem Try.fld102_3 : Go.Abs.fld Try.prog 102 3 = some (3, 1, false) := by kernel_rfl
@[go_sem] theorem Try.und103 : Go.Abs.und Try.prog 103 = .struct #[⟨ "_interface", 17, 0, false, "", "runtime", 0⟩, ⟨ "concrete", 17, 1, false, "", "runtime", 8⟩, ⟨ "asserted", 17, 2, false, "", "runtime", 16⟩, ⟨ "missingMethod", 9, 3, false, "", "runtime", 24⟩] := by kernel_rfl
@[go_sem] theorem Try.siz103 : Go.Abs.siz Try.prog 103 = some 4 := by kernel_rfl
@[go_sem] theorem Try.byt103 : Go.Abs.byt Try.prog 103 = some 40 := by kernel_rfl
@[go_sem] theorem Try.azero103 : Go.Abs.aZero Try.prog 103 = some (4, .agg [.v (.pointer none), .v (.pointer none), .v (.pointer none), .v (.string ByteArray.empty)]) := by kernel_rfl
@[go_sem] theorem Try.zer103 : Go.Abs.zer Try.prog 103 = some (.agg [.v (.pointer none), .v (.pointer none), .v (.pointer none), .v (.string ByteArray.empty)]) := by kernel_rfl
@[go_sem] theorem Try.plainSrc103 : Go.Abs.plainSrc Try.prog 103 = false := by kernel_rfl
@[go_sem] theorem Try.fld103_0 : Go.Abs.fld Try.prog 103 0 = some (0, 1, false) := by kernel_rfl
@[go_sem] theorem Try.fld103_1 : Go.Abs.fld Try.prog 103 1 = some (1, 1, false) := by kernel_rfl
@[go_sem] theorem Try.fld103_2 : Go.Abs.fld Try.prog 103 2 = some (2, 1, false) := by kernel_rfl
@[go_sem] theorem Try.fld103_3 : Go.Abs.fld Try.prog 103 3 = some (3, 1, false) := by kernel_rfl
@[go_sem] theorem Try.und104 : Go.Abs.und Try.prog 104 = .array 0 16 := by kernel_rfl
@[go_sem] theorem Try.siz104 : Go.Abs.siz Try.prog 104 = some 0 := by kernel_rfl
@[go_sem] theorem Try.byt104 : Go.Abs.byt Try.prog 104 = some 0 := by kernel_rfl
@[go_sem] theorem Try.azero104 : Go.Abs.aZero Try.prog 104 = some (0, .agg []) := by kernel_rfl
@[go_sem] theorem Try.zer104 : Go.Abs.zer Try.prog 104 = some (.agg []) := by kernel_rfl
@[go_sem] theorem Try.plainSrc104 : Go.Abs.plainSrc Try.prog 104 = false := by kernel_rfl
@[go_sem] theorem Try.und105 : Go.Abs.und Try.prog 105 = .struct #[⟨ "_", 104, 0, false, "", "runtime", 0⟩] := by kernel_rfl
@[go_sem] theorem Try.siz105 : Go.Abs.siz Try.prog 105 = some 0 := by kernel_rfl
@[go_sem] theorem Try.byt105 : Go.Abs.byt Try.prog 105 = some 0 := by kernel_rfl
@[go_sem] theorem Try.azero105 : Go.Abs.aZero Try.prog 105 = some (0, .agg []) := by kernel_rfl
@[go_sem] theorem Try.zer105 : Go.Abs.zer Try.prog 105 = some (.agg []) := by kernel_rfl
@[go_sem] theorem Try.plainSrc105 : Go.Abs.plainSrc Try.prog 105 = false := by kernel_rfl
@[go_sem] theorem Try.fld105_0 : Go.Abs.fld Try.prog 105 0 = some (0, 0, true) := by kernel_rfl
@[go_sem] theorem Try.und106 : Go.Abs.und Try.prog 106 = .struct #[⟨ "_", 104, 0, false, "", "runtime", 0⟩] := by kernel_rfl
@[go_sem] theorem Try.siz106 : Go.Abs.siz Try.prog 106 = some 0 := by kernel_rfl
@[go_sem] theorem Try.byt106 : Go.Abs.byt Try.prog 106 = some 0 := by kernel_rfl
@[go_sem] theorem Try.azero106 : Go.Abs.aZero Try.prog 106 = some (0, .agg []) := by kernel_rfl
@[go_sem] theorem Try.zer106 : Go.Abs.zer Try.prog 106 = some (.agg []) := by kernel_rfl
@[go_sem] theorem Try.plainSrc106 : Go.Abs.plainSrc Try.prog 106 = false := by kernel_rfl
@[go_sem] theorem Try.fld106_0 : Go.Abs.fld Try.prog 106 0 = some (0, 0, true) := by kernel_rfl
@[go_sem] theorem Try.und108 : Go.Abs.und Try.prog 108 = .int .u8 := by kernel_rfl
@[go_sem] theorem Try.siz108 : Go.Abs.siz Try.prog 108 = some 1 := by kernel_rfl
@[go_sem] theorem Try.byt108 : Go.Abs.byt Try.prog 108 = some 1 := by kernel_rfl
@[go_sem] theorem Try.azero108 : Go.Abs.aZero Try.prog 108 = some (1, .v (.int .u8 0)) := by kernel_rfl
@[go_sem] theorem Try.zer108 : Go.Abs.zer Try.prog 108 = some (.v (.int .u8 0)) := by kernel_rfl
@[go_sem] theorem Try.plainSrc108 : Go.Abs.plainSrc Try.prog 108 = false := by kernel_rfl
@[go_sem] theorem Try.und109 : Go.Abs.und Try.prog 109 = .int .u8 := by kernel_rfl
@[go_sem] theorem Try.siz109 : Go.Abs.siz Try.prog 109 = some 1 := by kernel_rfl
@[go_sem] theorem Try.byt109 : Go.Abs.byt Try.prog 109 = some 1 := by kernel_rfl
@[go_sem] theorem Try.azero109 : Go.Abs.aZero Try.prog 109 = some (1, .v (.int .u8 0)) := by kernel_rfl
@[go_sem] theorem Try.zer109 : Go.Abs.zer Try.prog 109 = some (.v (.int .u8 0)) := by kernel_rfl
@[go_sem] theorem Try.plainSrc109 : Go.Abs.plainSrc Try.prog 109 = false := by kernel_rfl
@[go_sem] theorem Try.und111 : Go.Abs.und Try.prog 111 = .pointer 5 := by kernel_rfl
@[go_sem] theorem Try.siz111 : Go.Abs.siz Try.prog 111 = some 1 := by kernel_rfl
@[go_sem] theorem Try.byt111 : Go.Abs.byt Try.prog 111 = some 8 := by kernel_rfl
@[go_sem] theorem Try.azero111 : Go.Abs.aZero Try.prog 111 = some (1, .v (.pointer none)) := by kernel_rfl
@[go_sem] theorem Try.zer111 : Go.Abs.zer Try.prog 111 = some (.v (.pointer none)) := by kernel_rfl
@[go_sem] theorem Try.plainSrc111 : Go.Abs.plainSrc Try.prog 111 = false := by kernel_rfl
@[go_sem] theorem Try.und112 : Go.Abs.und Try.prog 112 = .int .i32 := by kernel_rfl
@[go_sem] theorem Try.siz112 : Go.Abs.siz Try.prog 112 = some 1 := by kernel_rfl
@[go_sem] theorem Try.byt112 : Go.Abs.byt Try.prog 112 = some 4 := by kernel_rfl
@[go_sem] theorem Try.azero112 : Go.Abs.aZero Try.prog 112 = some (1, .v (.int .i32 0)) := by kernel_rfl
@[go_sem] theorem Try.zer112 : Go.Abs.zer Try.prog 112 = some (.v (.int .i32 0)) := by kernel_rfl
@[go_sem] theorem Try.plainSrc112 : Go.Abs.plainSrc Try.prog 112 = false := by kernel_rfl
@[go_sem] theorem Try.und113 : Go.Abs.und Try.prog 113 = .int .i32 := by kernel_rfl
@[go_sem] theorem Try.siz113 : Go.Abs.siz Try.prog 113 = some 1 := by kernel_rfl
@[go_sem] theorem Try.byt113 : Go.Abs.byt Try.prog 113 = some 4 := by kernel_rfl
@[go_sem] theorem Try.azero113 : Go.Abs.aZero Try.prog 113 = some (1, .v (.int .i32 0)) := by kernel_rfl
@[go_sem] theorem Try.zer113 : Go.Abs.zer Try.prog 113 = some (.v (.int .i32 0)) := by kernel_rfl
@[go_sem] theorem Try.plainSrc113 : Go.Abs.plainSrc Try.prog 113 = false := by kernel_rfl
@[go_sem] theorem Try.und114 : Go.Abs.und Try.prog 114 = .struct #[⟨ "Size_", 12, 0, false, "", "", 0⟩, ⟨ "PtrBytes", 12, 1, false, "", "", 8⟩, ⟨ "Hash", 81, 2, false, "", "", 16⟩, ⟨ "TFlag", 108, 3, false, "", "", 20⟩, ⟨ "Align_", 5, 4, false, "", "", 21⟩, ⟨ "FieldAlign_", 5, 5, false, "", "", 22⟩, ⟨ "Kind_", 109, 6, false, "", "", 23⟩, ⟨ "Equal", 110, 7, false, "", "", 24⟩, ⟨ "GCData", 111, 8, false, "", "", 32⟩, ⟨ "Str", 112, 9, false, "", "", 40⟩, ⟨ "PtrToThis", 113, 10, false, "", "", 44⟩] := by kernel_rfl
@[go_sem] theorem Try.siz114 : Go.Abs.siz Try.prog 114 = some 11 := by kernel_rfl
@[go_sem] theorem Try.byt114 : Go.Abs.byt Try.prog 114 = some 48 := by kernel_rfl
@[go_sem] theorem Try.azero114 : Go.Abs.aZero Try.prog 114 = some (11, .agg [.v (.int .u64 0), .v (.int .u64 0), .v (.int .u32 0), .v (.int .u8 0), .v (.int .u8 0), .v (.int .u8 0), .v (.int .u8 0), .v (.nilFunc), .v (.pointer none), .v (.int .i32 0), .v (.int .i32 0)]) := by kernel_rfl
@[go_sem] theorem Try.zer114 : Go.Abs.zer Try.prog 114 = some (.agg [.v (.int .u64 0), .v (.int .u64 0), .v (.int .u32 0), .v (.int .u8 0), .v (.int .u8 0), .v (.int .u8 0), .v (.int .u8 0), .v (.nilFunc), .v (.pointer none), .v (.int .i32 0), .v (.int .i32 0)]) := by kernel_rfl
@[go_sem] theorem Try.plainSrc114 : Go.Abs.plainSrc Try.prog 114 = false := by kernel_rfl
@[go_sem] theorem Try.fld114_0 : Go.Abs.fld Try.prog 114 0 = some (0, 1, false) := by kernel_rfl
@[go_sem] theorem Try.fld114_1 : Go.Abs.fld Try.prog 114 1 = some (1, 1, false) := by kernel_rfl
@[go_sem] theorem Try.fld114_2 : Go.Abs.fld Try.prog 114 2 = some (2, 1, false) := by kernel_rfl
@[go_sem] theorem Try.fld114_3 : Go.Abs.fld Try.prog 114 3 = some (3, 1, false) := by kernel_rfl
@[go_sem] theorem Try.fld114_4 : Go.Abs.fld Try.prog 114 4 = some (4, 1, false) := by kernel_rfl
@[go_sem] theorem Try.fld114_5 : Go.Abs.fld Try.prog 114 5 = some (5, 1, false) := by kernel_rfl
@[go_sem] theorem Try.fld114_6 : Go.Abs.fld Try.prog 114 6 = some (6, 1, false) := by kernel_rfl
@[go_sem] theorem Try.fld114_7 : Go.Abs.fld Try.prog 114 7 = some (7, 1, false) := by kernel_rfl
@[go_sem] theorem Try.fld114_8 : Go.Abs.fld Try.prog 114 8 = some (8, 1, false) := by kernel_rfl
@[go_sem] theorem Try.fld114_9 : Go.Abs.fld Try.prog 114 9 = some (9, 1, false) := by kernel_rfl
@[go_sem] theorem Try.fld114_10 : Go.Abs.fld Try.prog 114 10 = some (10, 1, false) := by kernel_rfl
@[go_sem] theorem Try.und115 : Go.Abs.und Try.prog 115 = .struct #[⟨ "Size_", 12, 0, false, "", "", 0⟩, ⟨ "PtrBytes", 12, 1, false, "", "", 8⟩, ⟨ "Hash", 81, 2, false, "", "", 16⟩, ⟨ "TFlag", 108, 3, false, "", "", 20⟩, ⟨ "Align_", 5, 4, false, "", "", 21⟩, ⟨ "FieldAlign_", 5, 5, false, "", "", 22⟩, ⟨ "Kind_", 109, 6, false, "", "", 23⟩, ⟨ "Equal", 110, 7, false, "", "", 24⟩, ⟨ "GCData", 111, 8, false, "", "", 32⟩, ⟨ "Str", 112, 9, false, "", "", 40⟩, ⟨ "PtrToThis", 113, 10, false, "", "", 44⟩] := by kernel_rfl
@[go_sem] theorem Try.siz115 : Go.Abs.siz Try.prog 115 = some 11 := by kernel_rfl
@[go_sem] theorem Try.byt115 : Go.Abs.byt Try.prog 115 = some 48 := by kernel_rfl
@[go_sem] theorem Try.azero115 : Go.Abs.aZero Try.prog 115 = some (11, .agg [.v (.int .u64 0), .v (.int .u64 0), .v (.int .u32 0), .v (.int .u8 0), .v (.int .u8 0), .v (.int .u8 0), .v (.int .u8 0), .v (.nilFunc), .v (.pointer none), .v (.int .i32 0), .v (.int .i32 0)]) := by kernel_rfl
@[go_sem] theorem Try.zer115 : Go.Abs.zer Try.prog 115 = some (.agg [.v (.int .u64 0), .v (.int .u64 0), .v (.int .u32 0), .v (.int .u8 0), .v (.int .u8 0), .v (.int .u8 0), .v (.int .u8 0), .v (.nilFunc), .v (.pointer none), .v (.int .i32 0), .v (.int .i32 0)]) := by kernel_rfl
@[go_sem] theorem Try.plainSrc115 : Go.Abs.plainSrc Try.prog 115 = false := by kernel_rfl
@[go_sem] theorem Try.fld115_0 : Go.Abs.fld Try.prog 115 0 = some (0, 1, false) := by kernel_rfl
@[go_sem] theorem Try.fld115_1 : Go.Abs.fld Try.prog 115 1 = some (1, 1, false) := by kernel_rfl
@[go_sem] theorem Try.fld115_2 : Go.Abs.fld Try.prog 115 2 = some (2, 1, false) := by kernel_rfl
@[go_sem] theorem Try.fld115_3 : Go.Abs.fld Try.prog 115 3 = some (3, 1, false) := by kernel_rfl
@[go_sem] theorem Try.fld115_4 : Go.Abs.fld Try.prog 115 4 = some (4, 1, false) := by kernel_rfl
@[go_sem] theorem Try.fld115_5 : Go.Abs.fld Try.prog 115 5 = some (5, 1, false) := by kernel_rfl
@[go_sem] theorem Try.fld115_6 : Go.Abs.fld Try.prog 115 6 = some (6, 1, false) := by kernel_rfl
@[go_sem] theorem Try.fld115_7 : Go.Abs.fld Try.prog 115 7 = some (7, 1, false) := by kernel_rfl
@[go_sem] theorem Try.fld115_8 : Go.Abs.fld Try.prog 115 8 = some (8, 1, false) := by kernel_rfl
@[go_sem] theorem Try.fld115_9 : Go.Abs.fld Try.prog 115 9 = some (9, 1, false) := by kernel_rfl
@[go_sem] theorem Try.fld115_10 : Go.Abs.fld Try.prog 115 10 = some (10, 1, false) := by kernel_rfl
@[go_sem] theorem Try.und116 : Go.Abs.und Try.prog 116 = .unsafePointer := by kernel_rfl
@[go_sem] theorem Try.siz116 : Go.Abs.siz Try.prog 116 = some 1 := by kernel_rfl
@[go_sem] theorem Try.byt116 : Go.Abs.byt Try.prog 116 = some 8 := by kernel_rfl
@[go_sem] theorem Try.azero116 : Go.Abs.aZero Try.prog 116 = some (1, .v (.pointer none)) := by kernel_rfl
@[go_sem] theorem Try.zer116 : Go.Abs.zer Try.prog 116 = some (.v (.pointer none)) := by kernel_rfl
@[go_sem] theorem Try.plainSrc116 : Go.Abs.plainSrc Try.prog 116 = false := by kernel_rfl
end Go.Proofs
