import Derived.Test.YtbkehjgnaogcdaaDoorAbE
import Derived.Test.YtbkehjgnaogcdaaDoorProg
set_option linter.all false
namespace Go.Proofs
@[go_sem] theorem Tryd.und2 : Go.Abs.und Tryd.prog 2 = .int .i64 := by kernel_rfl
@[go_sem] theorem Tryd.siz2 : Go.Abs.siz Tryd.prog 2 = some 1 := by kernel_rfl
@[go_sem] theorem Tryd.byt2 : Go.Abs.byt Tryd.prog 2 = some 8 := by kernel_rfl
@[go_sem] theorem Tryd.azero2 : Go.Abs.aZero Tryd.prog 2 = some (1, .v (.int .i64 0)) := by kernel_rfl
@[go_sem] theorem Tryd.zer2 : Go.Abs.zer Tryd.prog 2 = some (.v (.int .i64 0)) := by kernel_rfl
@[go_sem] theorem Tryd.plainSrc2 : Go.Abs.plainSrc Tryd.prog 2 = false := by kernel_rfl
@[go_sem] theorem Tryd.und3 : Go.Abs.und Tryd.prog 3 = .int .i64 := by kernel_rfl
@[go_sem] theorem Tryd.siz3 : Go.Abs.siz Tryd.prog 3 = some 1 := by kernel_rfl
@[go_sem] theorem Tryd.byt3 : Go.Abs.byt Tryd.prog 3 = some 8 := by kernel_rfl
@[go_sem] theorem Tryd.azero3 : Go.Abs.aZero Tryd.prog 3 = some (1, .v (.int .i64 0)) := by kernel_rfl
@[go_sem] theorem Tryd.zer3 : Go.Abs.zer Tryd.prog 3 = some (.v (.int .i64 0)) := by kernel_rfl
@[go_sem] theorem Tryd.plainSrc3 : Go.Abs.plainSrc Tryd.prog 3 = false := by kernel_rfl
@[go_sem] theorem Tryd.und4 : Go.Abs.und Tryd.prog 4 = .bool := by kernel_rfl
@[go_sem] theorem Tryd.siz4 : Go.Abs.siz Tryd.prog 4 = some 1 := by kernel_rfl
@[go_sem] theorem Tryd.byt4 : Go.Abs.byt Tryd.prog 4 = some 1 := by kernel_rfl
@[go_sem] theorem Tryd.azero4 : Go.Abs.aZero Tryd.prog 4 = some (1, .v (.bool false)) := by kernel_rfl
@[go_sem] theorem Tryd.zer4 : Go.Abs.zer Tryd.prog 4 = some (.v (.bool false)) := by kernel_rfl
@[go_sem] theorem Tryd.plainSrc4 : Go.Abs.plainSrc Tryd.prog 4 = false := by kernel_rfl
@[go_sem] theorem Tryd.und5 : Go.Abs.und Tryd.prog 5 = .int .u8 := by kernel_rfl
@[go_sem] theorem Tryd.siz5 : Go.Abs.siz Tryd.prog 5 = some 1 := by kernel_rfl
@[go_sem] theorem Tryd.byt5 : Go.Abs.byt Tryd.prog 5 = some 1 := by kernel_rfl
@[go_sem] theorem Tryd.azero5 : Go.Abs.aZero Tryd.prog 5 = some (1, .v (.int .u8 0)) := by kernel_rfl
@[go_sem] theorem Tryd.zer5 : Go.Abs.zer Tryd.prog 5 = some (.v (.int .u8 0)) := by kernel_rfl
@[go_sem] theorem Tryd.plainSrc5 : Go.Abs.plainSrc Tryd.prog 5 = false := by kernel_rfl
@[go_sem] theorem Tryd.und6 : Go.Abs.und Tryd.prog 6 = .int .u8 := by kernel_rfl
@[go_sem] theorem Tryd.siz6 : Go.Abs.siz Tryd.prog 6 = some 1 := by kernel_rfl
@[go_sem] theorem Tryd.byt6 : Go.Abs.byt Tryd.prog 6 = some 1 := by kernel_rfl
@[go_sem] theorem Tryd.azero6 : Go.Abs.aZero Tryd.prog 6 = some (1, .v (.int .u8 0)) := by kernel_rfl
@[go_sem] theorem Tryd.zer6 : Go.Abs.zer Tryd.prog 6 = some (.v (.int .u8 0)) := by kernel_rfl
@[go_sem] theorem Tryd.plainSrc6 : Go.Abs.plainSrc Tryd.prog 6 = false := by kernel_rfl
@[go_sem] theorem Tryd.und7 : Go.Abs.und Tryd.prog 7 = .struct #[⟨ "x", 2, 0, false, "", "runtime", 0⟩, ⟨ "y", 3, 1, false, "", "runtime", 8⟩, ⟨ "signed", 4, 2, false, "", "runtime", 16⟩, ⟨ "code", 6, 3, false, "", "runtime", 17⟩] := by kernel_rfl
@[go_sem] theorem Tryd.siz7 : Go.Abs.siz Tryd.prog 7 = some 4 := by kernel_rfl
@[go_sem] theorem Tryd.byt7 : Go.Abs.byt Tryd.prog 7 = some 24 := by kernel_rfl
@[go_sem] theorem Tryd.azero7 : Go.Abs.aZero Tryd.prog 7 = some (4, .agg [.v (.int .i64 0), .v (.int .i64 0), .v (.bool false), .v (.int .u8 0)]) := by kernel_rfl
@[go_sem] theorem Tryd.zer7 : Go.Abs.zer Tryd.prog 7 = some (.agg [.v (.int .i64 0), .v (.int .i64 0), .v (.bool false), .v (.int .u8 0)]) := by kernel_rfl
@[go_sem] theorem Tryd.plainSrc7 : Go.Abs.plainSrc Tryd.prog 7 = false := by kernel_rfl
@[go_sem] theorem Tryd.fld7_0 : Go.Abs.fld Tryd.prog 7 0 = some (0, 1, false) := by kernel_rfl
@[go_sem] theorem Tryd.fld7_1 : Go.Abs.fld Tryd.prog 7 1 = some (1, 1, false) := by kernel_rfl
@[go_sem] theorem Tryd.fld7_2 : Go.Abs.fld Tryd.prog 7 2 = some (2, 1, false) := by kernel_rfl
@[go_sem] theorem Tryd.fld7_3 : Go.Abs.fld Tryd.prog 7 3 = some (3, 1, false) := by kernel_rfl
@[go_sem] theorem Tryd.und8 : Go.Abs.und Tryd.prog 8 = .struct #[⟨ "x", 2, 0, false, "", "runtime", 0⟩, ⟨ "y", 3, 1, false, "", "runtime", 8⟩, ⟨ "signed", 4, 2, false, "", "runtime", 16⟩, ⟨ "code", 6, 3, false, "", "runtime", 17⟩] := by kernel_rfl
@[go_sem] theorem Tryd.siz8 : Go.Abs.siz Tryd.prog 8 = some 4 := by kernel_rfl
@[go_sem] theorem Tryd.byt8 : Go.Abs.byt Tryd.prog 8 = some 24 := by kernel_rfl
@[go_sem] theorem Tryd.azero8 : Go.Abs.aZero Tryd.prog 8 = some (4, .agg [.v (.int .i64 0), .v (.int .i64 0), .v (.bool false), .v (.int .u8 0)]) := by kernel_rfl
@[go_sem] theorem Tryd.zer8 : Go.Abs.zer Tryd.prog 8 = some (.agg [.v (.int .i64 0), .v (.int .i64 0), .v (.bool false), .v (.int .u8 0)]) := by kernel_rfl
@[go_sem] theorem Tryd.plainSrc8 : Go.Abs.plainSrc Tryd.prog 8 = false := by kernel_rfl
@[go_sem] theorem Tryd.fld8_0 : Go.Abs.fld Tryd.prog 8 0 = some (0, 1, false) := by kernel_rfl
@[go_sem] theorem Tryd.fld8_1 : Go.Abs.fld Tryd.prog 8 1 = some (1, 1, false) := by kernel_rfl
@[go_sem] theorem Tryd.fld8_2 : Go.Abs.fld Tryd.prog 8 2 = some (2, 1, false) := by kernel_rfl
@[go_sem] theorem Tryd.fld8_3 : Go.Abs.fld Tryd.prog 8 3 = some (3, 1, false) := by kernel_rfl
@[go_sem] theorem Tryd.und9 : Go.Abs.und Tryd.prog 9 = .string := by kernel_rfl
@[go_sem] theorem Tryd.siz9 : Go.Abs.siz Tryd.prog 9 = some 1 := by kernel_rfl
@[go_sem] theorem Tryd.byt9 : Go.Abs.byt Tryd.prog 9 = some 16 := by kernel_rfl
@[go_sem] theorem Tryd.azero9 : Go.Abs.aZero Tryd.prog 9 = some (1, .v (.string ByteArray.empty)) := by kernel_rfl
@[go_sem] theorem Tryd.zer9 : Go.Abs.zer Tryd.prog 9 = some (.v (.string ByteArray.empty)) := by kernel_rfl
@[go_sem] theorem Tryd.plainSrc9 : Go.Abs.plainSrc Tryd.prog 9 = true := by kernel_rfl
@[go_sem] theorem Tryd.und10 : Go.Abs.und Tryd.prog 10 = .string := by kernel_rfl
@[go_sem] theorem Tryd.siz10 : Go.Abs.siz Tryd.prog 10 = some 1 := by kernel_rfl
@[go_sem] theorem Tryd.byt10 : Go.Abs.byt Tryd.prog 10 = some 16 := by kernel_rfl
@[go_sem] theorem Tryd.azero10 : Go.Abs.aZero Tryd.prog 10 = some (1, .v (.string ByteArray.empty)) := by kernel_rfl
@[go_sem] theorem Tryd.zer10 : Go.Abs.zer Tryd.prog 10 = some (.v (.string ByteArray.empty)) := by kernel_rfl
@[go_sem] theorem Tryd.plainSrc10 : Go.Abs.plainSrc Tryd.prog 10 = true := by kernel_rfl
@[go_sem] theorem Tryd.und11 : Go.Abs.und Tryd.prog 11 = .string := by kernel_rfl
@[go_sem] theorem Tryd.siz11 : Go.Abs.siz Tryd.prog 11 = some 1 := by kernel_rfl
@[go_sem] theorem Tryd.byt11 : Go.Abs.byt Tryd.prog 11 = some 16 := by kernel_rfl
@[go_sem] theorem Tryd.azero11 : Go.Abs.aZero Tryd.prog 11 = some (1, .v (.string ByteArray.empty)) := by kernel_rfl
@[go_sem] theorem Tryd.zer11 : Go.Abs.zer Tryd.prog 11 = some (.v (.string ByteArray.empty)) := by kernel_rfl
@[go_sem] theorem Tryd.plainSrc11 : Go.Abs.plainSrc Tryd.prog 11 = true := by kernel_rfl
@[go_sem] theorem Tryd.und12 : Go.Abs.und Tryd.prog 12 = .int .u64 := by kernel_rfl
@[go_sem] theorem Tryd.siz12 : Go.Abs.siz Tryd.prog 12 = some 1 := by kernel_rfl
@[go_sem] theorem Tryd.byt12 : Go.Abs.byt Tryd.prog 12 = some 8 := by kernel_rfl
@[go_sem] theorem Tryd.azero12 : Go.Abs.aZero Tryd.prog 12 = some (1, .v (.int .u64 0)) := by kernel_rfl
@[go_sem] theorem Tryd.zer12 : Go.Abs.zer Tryd.prog 12 = some (.v (.int .u64 0)) := by kernel_rfl
@[go_sem] theorem Tryd.plainSrc12 : Go.Abs.plainSrc Tryd.prog 12 = false := by kernel_rfl
@[go_sem] theorem Tryd.und13 : Go.Abs.und Tryd.prog 13 = .struct #[⟨ "msg", 9, 0, false, "", "runtime", 0⟩, ⟨ "addr", 12, 1, false, "", "runtime", 16⟩] := by kernel_rfl
@[go_sem] theorem Tryd.siz13 : Go.Abs.siz Tryd.prog 13 = some 2 := by kernel_rfl
@[go_sem] theorem Tryd.byt13 : Go.Abs.byt Tryd.prog 13 = some 24 := by kernel_rfl
@[go_sem] theorem Tryd.azero13 : Go.Abs.aZero Tryd.prog 13 = some (2, .agg [.v (.string ByteArray.empty), .v (.int .u64 0)]) := by kernel_rfl
@[go_sem] theorem Tryd.zer13 : Go.Abs.zer Tryd.prog 13 = some (.agg [.v (.string ByteArray.empty), .v (.int .u64 0)]) := by kernel_rfl
@[go_sem] theorem Tryd.plainSrc13 : Go.Abs.plainSrc Tryd.prog 13 = false := by kernel_rfl
@[go_sem] theorem Tryd.fld13_0 : Go.Abs.fld Tryd.prog 13 0 = some (0, 1, false) := by kernel_rfl
@[go_sem] theorem Tryd.fld13_1 : Go.Abs.fld Tryd.prog 13 1 = some (1, 1, false) := by kernel_rfl
@[go_sem] theorem Tryd.und14 : Go.Abs.und Tryd.prog 14 = .struct #[⟨ "msg", 9, 0, false, "", "runtime", 0⟩, ⟨ "addr", 12, 1, false, "", "runtime", 16⟩] := by kernel_rfl
@[go_sem] theorem Tryd.siz14 : Go.Abs.siz Tryd.prog 14 = some 2 := by kernel_rfl
@[go_sem] theorem Tryd.byt14 : Go.Abs.byt Tryd.prog 14 = some 24 := by kernel_rfl
@[go_sem] theorem Tryd.azero14 : Go.Abs.aZero Tryd.prog 14 = some (2, .agg [.v (.string ByteArray.empty), .v (.int .u64 0)]) := by kernel_rfl
@[go_sem] theorem Tryd.zer14 : Go.Abs.zer Tryd.prog 14 = some (.agg [.v (.string ByteArray.empty), .v (.int .u64 0)]) := by kernel_rfl
@[go_sem] theorem Tryd.plainSrc14 : Go.Abs.plainSrc Tryd.prog 14 = false := by kernel_rfl
@[go_sem] theorem Tryd.fld14_0 : Go.Abs.fld Tryd.prog 14 0 = some (0, 1, false) := by kernel_rfl
@[go_sem] theorem Tryd.fld14_1 : Go.Abs.fld Tryd.prog 14 1 = some (1, 1, false) := by kernel_rfl
@[go_sem] theorem Tryd.und15 : Go.Abs.und Tryd.prog 15 = .pointer 297 := by kernel_rfl
@[go_sem] theorem Tryd.siz15 : Go.Abs.siz Tryd.prog 15 = some 1 := by kernel_rfl
@[go_sem] theorem Tryd.byt15 : Go.Abs.byt Tryd.prog 15 = some 8 := by kernel_rfl
@[go_sem] theorem Tryd.azero15 : Go.Abs.aZero Tryd.prog 15 = some (1, .v (.pointer none)) := by kernel_rfl
@[go_sem] theorem Tryd.zer15 : Go.Abs.zer Tryd.prog 15 = some (.v (.pointer none)) := by kernel_rfl
@[go_sem] theorem Tryd.plainSrc15 : Go.Abs.plainSrc Tryd.prog 15 = false := by kernel_rfl
@[go_sem] theorem Tryd.und16 : Go.Abs.und Tryd.prog 16 = .pointer 300 := by kernel_rfl
@[go_sem] theorem Tryd.siz16 : Go.Abs.siz Tryd.prog 16 = some 1 := by kernel_rfl
@[go_sem] theorem Tryd.byt16 : Go.Abs.byt Tryd.prog 16 = some 8 := by kernel_rfl
@[go_sem] theorem Tryd.azero16 : Go.Abs.aZero Tryd.prog 16 = some (1, .v (.pointer none)) := by kernel_rfl
@[go_sem] theorem Tryd.zer16 : Go.Abs.zer Tryd.prog 16 = some (.v (.pointer none)) := by kernel_rfl
@[go_sem] theorem Tryd.plainSrc16 : Go.Abs.plainSrc Tryd.prog 16 = false := by kernel_rfl
@[go_sem] theorem Tryd.und17 : Go.Abs.und Tryd.prog 17 = .pointer 308 := by kernel_rfl
@[go_sem] theorem Tryd.siz17 : Go.Abs.siz Tryd.prog 17 = some 1 := by kernel_rfl
@[go_sem] theorem Tryd.byt17 : Go.Abs.byt Tryd.prog 17 = some 8 := by kernel_rfl
@[go_sem] theorem Tryd.azero17 : Go.Abs.aZero Tryd.prog 17 = some (1, .v (.pointer none)) := by kernel_rfl
@[go_sem] theorem Tryd.zer17 : Go.Abs.zer Tryd.prog 17 = some (.v (.pointer none)) := by kernel_rfl
@[go_sem] theorem Tryd.plainSrc17 : Go.Abs.plainSrc Tryd.prog 17 = false := by kernel_rfl
@[go_sem] theorem Tryd.und18 : Go.Abs.und Tryd.prog 18 = .struct #[⟨ "typ", 17, 0, false, "", "internal/runtime/maps", 0⟩] := by kernel_rfl
@[go_sem] theorem Tryd.siz18 : Go.Abs.siz Tryd.prog 18 = some 1 := by kernel_rfl
@[go_sem] theorem Tryd.byt18 : Go.Abs.byt Tryd.prog 18 = some 8 := by kernel_rfl
@[go_sem] theorem Tryd.azero18 : Go.Abs.aZero Tryd.prog 18 = some (1, .agg [.v (.pointer none)]) := by kernel_rfl
@[go_sem] theorem Tryd.zer18 : Go.Abs.zer Tryd.prog 18 = some (.agg [.v (.pointer none)]) := by kernel_rfl
@[go_sem] theorem Tryd.plainSrc18 : Go.Abs.plainSrc Tryd.prog 18 = false := by kernel_rfl
@[go_sem] theorem Tryd.fld18_0 : Go.Abs.fld Tryd.prog 18 0 = some (0, 1, false) := by kernel_rfl
@[go_sem] theorem Tryd.und19 : Go.Abs.und Tryd.prog 19 = .struct #[⟨ "typ", 17, 0, false, "", "internal/runtime/maps", 0⟩] := by kernel_rfl
@[go_sem] theorem Tryd.siz19 : Go.Abs.siz Tryd.prog 19 = some 1 := by kernel_rfl
@[go_sem] theorem Tryd.byt19 : Go.Abs.byt Tryd.prog 19 = some 8 := by kernel_rfl
@[go_sem] theorem Tryd.azero19 : Go.Abs.aZero Tryd.prog 19 = some (1, .agg [.v (.pointer none)]) := by kernel_rfl
@[go_sem] theorem Tryd.zer19 : Go.Abs.zer Tryd.prog 19 = some (.agg [.v (.pointer none)]) := by kernel_rfl
@[go_sem] theorem Tryd.plainSrc19 : Go.Abs.plainSrc Tryd.prog 19 = false := by kernel_rfl
@[go_sem] theorem Tryd.fld19_0 : Go.Abs.fld Tryd.prog 19 0 = some (0, 1, false) := by kernel_rfl
@[go_sem] theorem Tryd.und21 : Go.Abs.und Tryd.prog 21 = .int .i32 := by kernel_rfl
@[go_sem] theorem Tryd.siz21 : Go.Abs.siz Tryd.prog 21 = some 1 := by kernel_rfl
@[go_sem] theorem Tryd.byt21 : Go.Abs.byt Tryd.prog 21 = some 4 := by kernel_rfl
@[go_sem] theorem Tryd.azero21 : Go.Abs.aZero Tryd.prog 21 = some (1, .v (.int .i32 0)) := by kernel_rfl
@[go_sem] theorem Tryd.zer21 : Go.Abs.zer Tryd.prog 21 = some (.v (.int .i32 0)) := by kernel_rfl
@[go_sem] theorem Tryd.plainSrc21 : Go.Abs.plainSrc Tryd.prog 21 = false := by kernel_rfl
@[go_sem] theorem Tryd.und22 : Go.Abs.und Tryd.prog 22 = .slice 3 := by kernel_rfl
@[go_sem] theorem Tryd.siz22 : Go.Abs.siz Tryd.prog 22 = some 1 := by kernel_rfl
@[go_sem] theorem Tryd.byt22 : Go.Abs.byt Tryd.prog 22 = some 24 := by kernel_rfl
@[go_sem] theorem Tryd.azero22 : Go.Abs.aZero Tryd.prog 22 = some (1, .v (.slice none 0 0)) := by kernel_rfl
@[go_sem] theorem Tryd.zer22 : Go.Abs.zer Tryd.prog 22 = some (.v (.slice none 0 0)) := by kernel_rfl
@[go_sem] theorem Tryd.plainSrc22 : Go.Abs.plainSrc Tryd.prog 22 = true := by kernel_rfl
@[go_sem] theorem Tryd.und23 : Go.Abs.und Tryd.prog 23 = .slice 9 := by kernel_rfl
@[go_sem] theorem Tryd.siz23 : Go.Abs.siz Tryd.prog 23 = some 1 := by kernel_rfl
@[go_sem] theorem Tryd.byt23 : Go.Abs.byt Tryd.prog 23 = some 24 := by kernel_rfl
@[go_sem] theorem Tryd.azero23 : Go.Abs.aZero Tryd.prog 23 = some (1, .v (.slice none 0 0)) := by kernel_rfl
@[go_sem] theorem Tryd.zer23 : Go.Abs.zer Tryd.prog 23 = some (.v (.slice none 0 0)) := by kernel_rfl
@[go_sem] theorem Tryd.plainSrc23 : Go.Abs.plainSrc Tryd.prog 23 = true := by kernel_rfl
@[go_sem] theorem Tryd.und25 : Go.Abs.und Tryd.prog 25 = .int .i64 := by kernel_rfl
@[go_sem] theorem Tryd.siz25 : Go.Abs.siz Tryd.prog 25 = some 1 := by kernel_rfl
@[go_sem] theorem Tryd.byt25 : Go.Abs.byt Tryd.prog 25 = some 8 := by kernel_rfl
@[go_sem] theorem Tryd.azero25 : Go.Abs.aZero Tryd.prog 25 = some (1, .v (.int .i64 0)) := by kernel_rfl
@[go_sem] theorem Tryd.zer25 : Go.Abs.zer Tryd.prog 25 = some (.v (.int .i64 0)) := by kernel_rfl
@[go_sem] theorem Tryd.plainSrc25 : Go.Abs.plainSrc Tryd.prog 25 = false := by kernel_rfl
@[go_sem] theorem Tryd.und31 : Go.Abs.und Tryd.prog 31 = .slice 35 := by kernel_rfl
@[go_sem] theorem Tryd.siz31 : Go.Abs.siz Tryd.prog 31 = some 1 := by kernel_rfl
@[go_sem] theorem Tryd.byt31 : Go.Abs.byt Tryd.prog 31 = some 24 := by kernel_rfl
@[go_sem] theorem Tryd.azero31 : Go.Abs.aZero Tryd.prog 31 = some (1, .v (.slice none 0 0)) := by kernel_rfl
@[go_sem] theorem Tryd.zer31 : Go.Abs.zer Tryd.prog 31 = some (.v (.slice none 0 0)) := by kernel_rfl
@[go_sem] theorem Tryd.plainSrc31 : Go.Abs.plainSrc Tryd.prog 31 = true := by kernel_rfl
@[go_sem] theorem Tryd.und35 : Go.Abs.und Tryd.prog 35 = .int .u64 := by kernel_rfl
@[go_sem] theorem Tryd.siz35 : Go.Abs.siz Tryd.prog 35 = some 1 := by kernel_rfl
@[go_sem] theorem Tryd.byt35 : Go.Abs.byt Tryd.prog 35 = some 8 := by kernel_rfl
@[go_sem] theorem Tryd.azero35 : Go.Abs.aZero Tryd.prog 35 = some (1, .v (.int .u64 0)) := by kernel_rfl
@[go_sem] theorem Tryd.zer35 : Go.Abs.zer Tryd.prog 35 = some (.v (.int .u64 0)) := by kernel_rfl
@[go_sem] theorem Tryd.plainSrc35 : Go.Abs.plainSrc Tryd.prog 35 = false := by kernel_rfl
@[go_sem] theorem Tryd.und44 : Go.Abs.und Tryd.prog 44 = .struct #[⟨ "Version", 3, 0, false, "", "", 0⟩, ⟨ "Weights", 22, 1, false, "", "", 8⟩] := by kernel_rfl
@[go_sem] theorem Tryd.siz44 : Go.Abs.siz Tryd.prog 44 = some 2 := by kernel_rfl
@[go_sem] theorem Tryd.byt44 : Go.Abs.byt Tryd.prog 44 = some 32 := by kernel_rfl
@[go_sem] theorem Tryd.azero44 : Go.Abs.aZero Tryd.prog 44 = some (2, .agg [.v (.int .i64 0), .v (.slice none 0 0)]) := by kernel_rfl
@[go_sem] theorem Tryd.zer44 : Go.Abs.zer Tryd.prog 44 = some (.agg [.v (.int .i64 0), .v (.slice none 0 0)]) := by kernel_rfl
@[go_sem] theorem Tryd.plainSrc44 : Go.Abs.plainSrc Tryd.prog 44 = false := by kernel_rfl
@[go_sem] theorem Tryd.fld44_0 : Go.Abs.fld Tryd.prog 44 0 = some (0, 1, false) := by kernel_rfl
@[go_sem] theorem Tryd.fld44_1 : Go.Abs.fld Tryd.prog 44 1 = some (1, 1, false) := by kernel_rfl
@[go_sem] theorem Tryd.und45 : Go.Abs.und Tryd.prog 45 = .struct #[⟨ "Version", 3, 0, false, "", "", 0⟩, ⟨ "Weights", 22, 1, false, "", "", 8⟩] := by kernel_rfl
@[go_sem] theorem Tryd.siz45 : Go.Abs.siz Tryd.prog 45 = some 2 := by kernel_rfl
@[go_sem] theorem Tryd.byt45 : Go.Abs.byt Tryd.prog 45 = some 32 := by kernel_rfl
@[go_sem] theorem Tryd.azero45 : Go.Abs.aZero Tryd.prog 45 = some (2, .agg [.v (.int .i64 0), .v (.slice none 0 0)]) := by kernel_rfl
@[go_sem] theorem Tryd.zer45 : Go.Abs.zer Tryd.prog 45 = some (.agg [.v (.int .i64 0), .v (.slice none 0 0)]) := by kernel_rfl
@[go_sem] theorem Tryd.plainSrc45 : Go.Abs.plainSrc Tryd.prog 45 = false := by kernel_rfl
@[go_sem] theorem Tryd.fld45_0 : Go.Abs.fld Tryd.prog 45 0 = some (0, 1, false) := by kernel_rfl
@[go_sem] theorem Tryd.fld45_1 : Go.Abs.fld Tryd.prog 45 1 = some (1, 1, false) := by kernel_rfl
@[go_sem] theorem Tryd.und46 : Go.Abs.und Tryd.prog 46 = .struct #[⟨ "Was", 45, 0, false, "", "", 0⟩, ⟨ "Will", 45, 2, false, "", "", 32⟩, ⟨ "Cursor", 9, 4, false, "", "", 64⟩, ⟨ "Done", 4, 5, false, "", "", 80⟩] := by kernel_rfl
@[go_sem] theorem Tryd.siz46 : Go.Abs.siz Tryd.prog 46 = some 6 := by kernel_rfl
@[go_sem] theorem Tryd.byt46 : Go.Abs.byt Tryd.prog 46 = some 88 := by kernel_rfl
@[go_sem] theorem Tryd.azero46 : Go.Abs.aZero Tryd.prog 46 = some (6, .agg [.v (.int .i64 0), .v (.slice none 0 0), .v (.int .i64 0), .v (.slice none 0 0), .v (.string ByteArray.empty), .v (.bool false)]) := by kernel_rfl
@[go_sem] theorem Tryd.zer46 : Go.Abs.zer Tryd.prog 46 = some (.agg [.v (.int .i64 0), .v (.slice none 0 0), .v (.int .i64 0), .v (.slice none 0 0), .v (.string ByteArray.empty), .v (.bool false)]) := by kernel_rfl
@[go_sem] theorem Tryd.plainSrc46 : Go.Abs.plainSrc Tryd.prog 46 = false := by kernel_rfl
@[go_sem] theorem Tryd.fld46_0 : Go.Abs.fld Tryd.prog 46 0 = some (0, 2, true) := by kernel_rfl
@[go_sem] theorem Tryd.fld46_1 : Go.Abs.fld Tryd.prog 46 1 = some (2, 2, true) := by kernel_rfl
@[go_sem] theorem Tryd.fld46_2 : Go.Abs.fld Tryd.prog 46 2 = some (4, 1, false) := by kernel_rfl
@[go_sem] theorem Tryd.fld46_3 : Go.Abs.fld Tryd.prog 46 3 = some (5, 1, false) := by kernel_rfl
@[go_sem] theorem Tryd.und47 : Go.Abs.und Tryd.prog 47 = .struct #[⟨ "Was", 45, 0, false, "", "", 0⟩, ⟨ "Will", 45, 2, false, "", "", 32⟩, ⟨ "Cursor", 9, 4, false, "", "", 64⟩, ⟨ "Done", 4, 5, false, "", "", 80⟩] := by kernel_rfl
@[go_sem] theorem Tryd.siz47 : Go.Abs.siz Tryd.prog 47 = some 6 := by kernel_rfl
@[go_sem] theorem Tryd.byt47 : Go.Abs.byt Tryd.prog 47 = some 88 := by kernel_rfl
@[go_sem] theorem Tryd.azero47 : Go.Abs.aZero Tryd.prog 47 = some (6, .agg [.v (.int .i64 0), .v (.slice none 0 0), .v (.int .i64 0), .v (.slice none 0 0), .v (.string ByteArray.empty), .v (.bool false)]) := by kernel_rfl
@[go_sem] theorem Tryd.zer47 : Go.Abs.zer Tryd.prog 47 = some (.agg [.v (.int .i64 0), .v (.slice none 0 0), .v (.int .i64 0), .v (.slice none 0 0), .v (.string ByteArray.empty), .v (.bool false)]) := by kernel_rfl
@[go_sem] theorem Tryd.plainSrc47 : Go.Abs.plainSrc Tryd.prog 47 = false := by kernel_rfl
@[go_sem] theorem Tryd.fld47_0 : Go.Abs.fld Tryd.prog 47 0 = some (0, 2, true) := by kernel_rfl
@[go_sem] theorem Tryd.fld47_1 : Go.Abs.fld Tryd.prog 47 1 = some (2, 2, true) := by kernel_rfl
@[go_sem] theorem Tryd.fld47_2 : Go.Abs.fld Tryd.prog 47 2 = some (4, 1, false) := by kernel_rfl
@[go_sem] theorem Tryd.fld47_3 : Go.Abs.fld Tryd.prog 47 3 = some (5, 1, false) := by kernel_rfl
@[go_sem] theorem Tryd.und48 : Go.Abs.und Tryd.prog 48 = .struct #[⟨ "Was", 45, 0, false, "", "", 0⟩, ⟨ "Will", 45, 2, false, "", "", 32⟩, ⟨ "Cursor", 9, 4, false, "", "", 64⟩, ⟨ "Done", 4, 5, false, "", "", 80⟩] := by kernel_rfl
@[go_sem] theorem Tryd.siz48 : Go.Abs.siz Tryd.prog 48 = some 6 := by kernel_rfl
@[go_sem] theorem Tryd.byt48 : Go.Abs.byt Tryd.prog 48 = some 88 := by kernel_rfl
@[go_sem] theorem Tryd.azero48 : Go.Abs.aZero Tryd.prog 48 = some (6, .agg [.v (.int .i64 0), .v (.slice none 0 0), .v (.int .i64 0), .v (.slice none 0 0), .v (.string ByteArray.empty), .v (.bool false)]) := by kernel_rfl
@[go_sem] theorem Tryd.zer48 : Go.Abs.zer Tryd.prog 48 = some (.agg [.v (.int .i64 0), .v (.slice none 0 0), .v (.int .i64 0), .v (.slice none 0 0), .v (.string ByteArray.empty), .v (.bool false)]) := by kernel_rfl
@[go_sem] theorem Tryd.plainSrc48 : Go.Abs.plainSrc Tryd.prog 48 = false := by kernel_rfl
@[go_sem] theorem Tryd.fld48_0 : Go.Abs.fld Tryd.prog 48 0 = some (0, 2, true) := by kernel_rfl
@[go_sem] theorem Tryd.fld48_1 : Go.Abs.fld Tryd.prog 48 1 = some (2, 2, true) := by kernel_rfl
@[go_sem] theorem Tryd.fld48_2 : Go.Abs.fld Tryd.prog 48 2 = some (4, 1, false) := by kernel_rfl
@[go_sem] theorem Tryd.fld48_3 : Go.Abs.fld Tryd.prog 48 3 = some (5, 1, false) := by kernel_rfl
@[go_sem] theorem Tryd.und50 : Go.Abs.und Tryd.prog 50 = .struct #[⟨ "Was", 45, 0, false, "", "", 0⟩, ⟨ "Will", 45, 2, false, "", "", 32⟩, ⟨ "Cursor", 9, 4, false, "", "", 64⟩, ⟨ "Done", 4, 5, false, "", "", 80⟩] := by kernel_rfl
@[go_sem] theorem Tryd.siz50 : Go.Abs.siz Tryd.prog 50 = some 6 := by kernel_rfl
@[go_sem] theorem Tryd.byt50 : Go.Abs.byt Tryd.prog 50 = some 88 := by kernel_rfl
@[go_sem] theorem Tryd.azero50 : Go.Abs.aZero Tryd.prog 50 = some (6, .agg [.v (.int .i64 0), .v (.slice none 0 0), .v (.int .i64 0), .v (.slice none 0 0), .v (.string ByteArray.empty), .v (.bool false)]) := by kernel_rfl
@[go_sem] theorem Tryd.zer50 : Go.Abs.zer Tryd.prog 50 = some (.agg [.v (.int .i64 0), .v (.slice none 0 0), .v (.int .i64 0), .v (.slice none 0 0), .v (.string ByteArray.empty), .v (.bool false)]) := by kernel_rfl
@[go_sem] theorem Tryd.plainSrc50 : Go.Abs.plainSrc Tryd.prog 50 = false := by kernel_rfl
@[go_sem] theorem Tryd.fld50_0 : Go.Abs.fld Tryd.prog 50 0 = some (0, 2, true) := by kernel_rfl
@[go_sem] theorem Tryd.fld50_1 : Go.Abs.fld Tryd.prog 50 1 = some (2, 2, true) := by kernel_rfl
@[go_sem] theorem Tryd.fld50_2 : Go.Abs.fld Tryd.prog 50 2 = some (4, 1, false) := by kernel_rfl
@[go_sem] theorem Tryd.fld50_3 : Go.Abs.fld Tryd.prog 50 3 = some (5, 1, false) := by kernel_rfl
@[go_sem] theorem Tryd.und67 : Go.Abs.und Tryd.prog 67 = .map 3 4 := by kernel_rfl
@[go_sem] theorem Tryd.siz67 : Go.Abs.siz Tryd.prog 67 = some 1 := by kernel_rfl
@[go_sem] theorem Tryd.byt67 : Go.Abs.byt Tryd.prog 67 = some 8 := by kernel_rfl
@[go_sem] theorem Tryd.azero67 : Go.Abs.aZero Tryd.prog 67 = some (1, .v (.map none)) := by kernel_rfl
@[go_sem] theorem Tryd.zer67 : Go.Abs.zer Tryd.prog 67 = some (.v (.map none)) := by kernel_rfl
@[go_sem] theorem Tryd.plainSrc67 : Go.Abs.plainSrc Tryd.prog 67 = false := by kernel_rfl
@[go_sem] theorem Tryd.und69 : Go.Abs.und Tryd.prog 69 = .pointer 155 := by kernel_rfl
@[go_sem] theorem Tryd.siz69 : Go.Abs.siz Tryd.prog 69 = some 1 := by kernel_rfl
@[go_sem] theorem Tryd.byt69 : Go.Abs.byt Tryd.prog 69 = some 8 := by kernel_rfl
@[go_sem] theorem Tryd.azero69 : Go.Abs.aZero Tryd.prog 69 = some (1, .v (.pointer none)) := by kernel_rfl
@[go_sem] theorem Tryd.zer69 : Go.Abs.zer Tryd.prog 69 = some (.v (.pointer none)) := by kernel_rfl
@[go_sem] theorem Tryd.plainSrc69 : Go.Abs.plainSrc Tryd.prog 69 = false := by kernel_rfl
@[go_sem] theorem Tryd.und73 : Go.Abs.und Tryd.prog 73 = .slice 158 := by kernel_rfl
@[go_sem] theorem Tryd.siz73 : Go.Abs.siz Tryd.prog 73 = some 1 := by kernel_rfl
@[go_sem] theorem Tryd.byt73 : Go.Abs.byt Tryd.prog 73 = some 24 := by kernel_rfl
@[go_sem] theorem Tryd.azero73 : Go.Abs.aZero Tryd.prog 73 = some (1, .v (.slice none 0 0)) := by kernel_rfl
@[go_sem] theorem Tryd.zer73 : Go.Abs.zer Tryd.prog 73 = some (.v (.slice none 0 0)) := by kernel_rfl
@[go_sem] theorem Tryd.plainSrc73 : Go.Abs.plainSrc Tryd.prog 73 = true := by kernel_rfl
@[go_sem] theorem Tryd.und75 : Go.Abs.und Tryd.prog 75 = .slice 78 := by kernel_rfl
@[go_sem] theorem Tryd.siz75 : Go.Abs.siz Tryd.prog 75 = some 1 := by kernel_rfl
@[go_sem] theorem Tryd.byt75 : Go.Abs.byt Tryd.prog 75 = some 24 := by kernel_rfl
@[go_sem] theorem Tryd.azero75 : Go.Abs.aZero Tryd.prog 75 = some (1, .v (.slice none 0 0)) := by kernel_rfl
@[go_sem] theorem Tryd.zer75 : Go.Abs.zer Tryd.prog 75 = some (.v (.slice none 0 0)) := by kernel_rfl
@[go_sem] theorem Tryd.plainSrc75 : Go.Abs.plainSrc Tryd.prog 75 = true := by kernel_rfl
@[go_sem] theorem Tryd.und77 : Go.Abs.und Tryd.prog 77 = .struct #[⟨ "To", 3, 0, false, "", "", 0⟩, ⟨ "Body", 9, 1, false, "", "", 8⟩] := by kernel_rfl
@[go_sem] theorem Tryd.siz77 : Go.Abs.siz Tryd.prog 77 = some 2 := by kernel_rfl
@[go_sem] theorem Tryd.byt77 : Go.Abs.byt Tryd.prog 77 = some 24 := by kernel_rfl
@[go_sem] theorem Tryd.azero77 : Go.Abs.aZero Tryd.prog 77 = some (2, .agg [.v (.int .i64 0), .v (.string ByteArray.empty)]) := by kernel_rfl
@[go_sem] theorem Tryd.zer77 : Go.Abs.zer Tryd.prog 77 = some (.agg [.v (.int .i64 0), .v (.string ByteArray.empty)]) := by kernel_rfl
@[go_sem] theorem Tryd.plainSrc77 : Go.Abs.plainSrc Tryd.prog 77 = false := by kernel_rfl
@[go_sem] theorem Tryd.fld77_0 : Go.Abs.fld Tryd.prog 77 0 = some (0, 1, false) := by kernel_rfl
@[go_sem] theorem Tryd.fld77_1 : Go.Abs.fld Tryd.prog 77 1 = some (1, 1, false) := by kernel_rfl
@[go_sem] theorem Tryd.und78 : Go.Abs.und Tryd.prog 78 = .struct #[⟨ "To", 3, 0, false, "", "", 0⟩, ⟨ "Body", 9, 1, false, "", "", 8⟩] := by kernel_rfl
@[go_sem] theorem Tryd.siz78 : Go.Abs.siz Tryd.prog 78 = some 2 := by kernel_rfl
@[go_sem] theorem Tryd.byt78 : Go.Abs.byt Tryd.prog 78 = some 24 := by kernel_rfl
@[go_sem] theorem Tryd.azero78 : Go.Abs.aZero Tryd.prog 78 = some (2, .agg [.v (.int .i64 0), .v (.string ByteArray.empty)]) := by kernel_rfl
@[go_sem] theorem Tryd.zer78 : Go.Abs.zer Tryd.prog 78 = some (.agg [.v (.int .i64 0), .v (.string ByteArray.empty)]) := by kernel_rfl
@[go_sem] theorem Tryd.plainSrc78 : Go.Abs.plainSrc Tryd.prog 78 = false := by kernel_rfl
@[go_sem] theorem Tryd.fld78_0 : Go.Abs.fld Tryd.prog 78 0 = some (0, 1, false) := by kernel_rfl
@[go_sem] theorem Tryd.fld78_1 : Go.Abs.fld Tryd.prog 78 1 = some (1, 1, false) := by kernel_rfl
@[go_sem] theorem Tryd.und79 : Go.Abs.und Tryd.prog 79 = .slice 310 := by kernel_rfl
@[go_sem] theorem Tryd.siz79 : Go.Abs.siz Tryd.prog 79 = some 1 := by kernel_rfl
@[go_sem] theorem Tryd.byt79 : Go.Abs.byt Tryd.prog 79 = some 24 := by kernel_rfl
@[go_sem] theorem Tryd.azero79 : Go.Abs.aZero Tryd.prog 79 = some (1, .v (.slice none 0 0)) := by kernel_rfl
@[go_sem] theorem Tryd.zer79 : Go.Abs.zer Tryd.prog 79 = some (.v (.slice none 0 0)) := by kernel_rfl
@[go_sem] theorem Tryd.plainSrc79 : Go.Abs.plainSrc Tryd.prog 79 = true := by kernel_rfl
@[go_sem] theorem Tryd.und80 : Go.Abs.und Tryd.prog 80 = .struct #[⟨ "At", 3, 0, false, "", "", 0⟩, ⟨ "Code", 25, 1, false, "", "", 8⟩] := by kernel_rfl
@[go_sem] theorem Tryd.siz80 : Go.Abs.siz Tryd.prog 80 = some 2 := by kernel_rfl
@[go_sem] theorem Tryd.byt80 : Go.Abs.byt Tryd.prog 80 = some 16 := by kernel_rfl
@[go_sem] theorem Tryd.azero80 : Go.Abs.aZero Tryd.prog 80 = some (2, .agg [.v (.int .i64 0), .v (.int .i64 0)]) := by kernel_rfl
@[go_sem] theorem Tryd.zer80 : Go.Abs.zer Tryd.prog 80 = some (.agg [.v (.int .i64 0), .v (.int .i64 0)]) := by kernel_rfl
@[go_sem] theorem Tryd.plainSrc80 : Go.Abs.plainSrc Tryd.prog 80 = false := by kernel_rfl
@[go_sem] theorem Tryd.fld80_0 : Go.Abs.fld Tryd.prog 80 0 = some (0, 1, false) := by kernel_rfl
@[go_sem] theorem Tryd.fld80_1 : Go.Abs.fld Tryd.prog 80 1 = some (1, 1, false) := by kernel_rfl
@[go_sem] theorem Tryd.und81 : Go.Abs.und Tryd.prog 81 = .struct #[⟨ "At", 3, 0, false, "", "", 0⟩, ⟨ "Code", 25, 1, false, "", "", 8⟩] := by kernel_rfl
@[go_sem] theorem Tryd.siz81 : Go.Abs.siz Tryd.prog 81 = some 2 := by kernel_rfl
@[go_sem] theorem Tryd.byt81 : Go.Abs.byt Tryd.prog 81 = some 16 := by kernel_rfl
@[go_sem] theorem Tryd.azero81 : Go.Abs.aZero Tryd.prog 81 = some (2, .agg [.v (.int .i64 0), .v (.int .i64 0)]) := by kernel_rfl
@[go_sem] theorem Tryd.zer81 : Go.Abs.zer Tryd.prog 81 = some (.agg [.v (.int .i64 0), .v (.int .i64 0)]) := by kernel_rfl
@[go_sem] theorem Tryd.plainSrc81 : Go.Abs.plainSrc Tryd.prog 81 = false := by kernel_rfl
@[go_sem] theorem Tryd.fld81_0 : Go.Abs.fld Tryd.prog 81 0 = some (0, 1, false) := by kernel_rfl
@[go_sem] theorem Tryd.fld81_1 : Go.Abs.fld Tryd.prog 81 1 = some (1, 1, false) := by kernel_rfl
@[go_sem] theorem Tryd.und82 : Go.Abs.und Tryd.prog 82 = .struct #[⟨ "Client", 3, 0, false, "", "", 0⟩, ⟨ "Seq", 3, 1, false, "", "", 8⟩, ⟨ "Results", 79, 2, false, "", "", 16⟩, ⟨ "Fault", 81, 3, false, "", "", 40⟩] := by kernel_rfl
@[go_sem] theorem Tryd.siz82 : Go.Abs.siz Tryd.prog 82 = some 5 := by kernel_rfl
@[go_sem] theorem Tryd.byt82 : Go.Abs.byt Tryd.prog 82 = some 56 := by kernel_rfl
@[go_sem] theorem Tryd.azero82 : Go.Abs.aZero Tryd.prog 82 = some (5, .agg [.v (.int .i64 0), .v (.int .i64 0), .v (.slice none 0 0), .v (.int .i64 0), .v (.int .i64 0)]) := by kernel_rfl
@[go_sem] theorem Tryd.zer82 : Go.Abs.zer Tryd.prog 82 = some (.agg [.v (.int .i64 0), .v (.int .i64 0), .v (.slice none 0 0), .v (.int .i64 0), .v (.int .i64 0)]) := by kernel_rfl
@[go_sem] theorem Tryd.plainSrc82 : Go.Abs.plainSrc Tryd.prog 82 = false := by kernel_rfl
@[go_sem] theorem Tryd.fld82_0 : Go.Abs.fld Tryd.prog 82 0 = some (0, 1, false) := by kernel_rfl
@[go_sem] theorem Tryd.fld82_1 : Go.Abs.fld Tryd.prog 82 1 = some (1, 1, false) := by kernel_rfl
@[go_sem] theorem Tryd.fld82_2 : Go.Abs.fld Tryd.prog 82 2 = some (2, 1, false) := by kernel_rfl
@[go_sem] theorem Tryd.fld82_3 : Go.Abs.fld Tryd.prog 82 3 = some (3, 2, true) := by kernel_rfl
@[go_sem] theorem Tryd.und83 : Go.Abs.und Tryd.prog 83 = .struct #[⟨ "Client", 3, 0, false, "", "", 0⟩, ⟨ "Seq", 3, 1, false, "", "", 8⟩, ⟨ "Results", 79, 2, false, "", "", 16⟩, ⟨ "Fault", 81, 3, false, "", "", 40⟩] := by kernel_rfl
@[go_sem] theorem Tryd.siz83 : Go.Abs.siz Tryd.prog 83 = some 5 := by kernel_rfl
@[go_sem] theorem Tryd.byt83 : Go.Abs.byt Tryd.prog 83 = some 56 := by kernel_rfl
@[go_sem] theorem Tryd.azero83 : Go.Abs.aZero Tryd.prog 83 = some (5, .agg [.v (.int .i64 0), .v (.int .i64 0), .v (.slice none 0 0), .v (.int .i64 0), .v (.int .i64 0)]) := by kernel_rfl
@[go_sem] theorem Tryd.zer83 : Go.Abs.zer Tryd.prog 83 = some (.agg [.v (.int .i64 0), .v (.int .i64 0), .v (.slice none 0 0), .v (.int .i64 0), .v (.int .i64 0)]) := by kernel_rfl
@[go_sem] theorem Tryd.plainSrc83 : Go.Abs.plainSrc Tryd.prog 83 = false := by kernel_rfl
@[go_sem] theorem Tryd.fld83_0 : Go.Abs.fld Tryd.prog 83 0 = some (0, 1, false) := by kernel_rfl
@[go_sem] theorem Tryd.fld83_1 : Go.Abs.fld Tryd.prog 83 1 = some (1, 1, false) := by kernel_rfl
@[go_sem] theorem Tryd.fld83_2 : Go.Abs.fld Tryd.prog 83 2 = some (2, 1, false) := by kernel_rfl
@[go_sem] theorem Tryd.fld83_3 : Go.Abs.fld Tryd.prog 83 3 = some (3, 2, true) := by kernel_rfl
@[go_sem] theorem Tryd.und90 : Go.Abs.und Tryd.prog 90 = .slice 96 := by kernel_rfl
@[go_sem] theorem Tryd.siz90 : Go.Abs.siz Tryd.prog 90 = some 1 := by kernel_rfl
@[go_sem] theorem Tryd.byt90 : Go.Abs.byt Tryd.prog 90 = some 24 := by kernel_rfl
@[go_sem] theorem Tryd.azero90 : Go.Abs.aZero Tryd.prog 90 = some (1, .v (.slice none 0 0)) := by kernel_rfl
@[go_sem] theorem Tryd.zer90 : Go.Abs.zer Tryd.prog 90 = some (.v (.slice none 0 0)) := by kernel_rfl
@[go_sem] theorem Tryd.plainSrc90 : Go.Abs.plainSrc Tryd.prog 90 = true := by kernel_rfl
@[go_sem] theorem Tryd.und91 : Go.Abs.und Tryd.prog 91 = .pointer 173 := by kernel_rfl
@[go_sem] theorem Tryd.siz91 : Go.Abs.siz Tryd.prog 91 = some 1 := by kernel_rfl
@[go_sem] theorem Tryd.byt91 : Go.Abs.byt Tryd.prog 91 = some 8 := by kernel_rfl
@[go_sem] theorem Tryd.azero91 : Go.Abs.aZero Tryd.prog 91 = some (1, .v (.pointer none)) := by kernel_rfl
@[go_sem] theorem Tryd.zer91 : Go.Abs.zer Tryd.prog 91 = some (.v (.pointer none)) := by kernel_rfl
@[go_sem] theorem Tryd.plainSrc91 : Go.Abs.plainSrc Tryd.prog 91 = false := by kernel_rfl
@[go_sem] theorem Tryd.und95 : Go.Abs.und Tryd.prog 95 = .struct #[⟨ "Kind", 3, 0, false, "", "", 0⟩, ⟨ "Chain", 3, 1, false, "", "", 8⟩, ⟨ "Brick", 3, 2, false, "", "", 16⟩, ⟨ "Epoch", 3, 3, false, "", "", 24⟩, ⟨ "List", 22, 4, false, "", "", 32⟩, ⟨ "Cursor", 9, 5, false, "", "", 56⟩] := by kernel_rfl
@[go_sem] theorem Tryd.siz95 : Go.Abs.siz Tryd.prog 95 = some 6 := by kernel_rfl
@[go_sem] theorem Tryd.byt95 : Go.Abs.byt Tryd.prog 95 = some 72 := by kernel_rfl
@[go_sem] theorem Tryd.azero95 : Go.Abs.aZero Tryd.prog 95 = some (6, .agg [.v (.int .i64 0), .v (.int .i64 0), .v (.int .i64 0), .v (.int .i64 0), .v (.slice none 0 0), .v (.string ByteArray.empty)]) := by kernel_rfl
@[go_sem] theorem Tryd.zer95 : Go.Abs.zer Tryd.prog 95 = some (.agg [.v (.int .i64 0), .v (.int .i64 0), .v (.int .i64 0), .v (.int .i64 0), .v (.slice none 0 0), .v (.string ByteArray.empty)]) := by kernel_rfl
@[go_sem] theorem Tryd.plainSrc95 : Go.Abs.plainSrc Tryd.prog 95 = false := by kernel_rfl
@[go_sem] theorem Tryd.fld95_0 : Go.Abs.fld Tryd.prog 95 0 = some (0, 1, false) := by kernel_rfl
@[go_sem] theorem Tryd.fld95_1 : Go.Abs.fld Tryd.prog 95 1 = some (1, 1, false) := by kernel_rfl
@[go_sem] theorem Tryd.fld95_2 : Go.Abs.fld Tryd.prog 95 2 = some (2, 1, false) := by kernel_rfl
@[go_sem] theorem Tryd.fld95_3 : Go.Abs.fld Tryd.prog 95 3 = some (3, 1, false) := by kernel_rfl
@[go_sem] theorem Tryd.fld95_4 : Go.Abs.fld Tryd.prog 95 4 = some (4, 1, false) := by kernel_rfl
@[go_sem] theorem Tryd.fld95_5 : Go.Abs.fld Tryd.prog 95 5 = some (5, 1, false) := by kernel_rfl
@[go_sem] theorem Tryd.und96 : Go.Abs.und Tryd.prog 96 = .struct #[⟨ "Kind", 3, 0, false, "", "", 0⟩, ⟨ "Chain", 3, 1, false, "", "", 8⟩, ⟨ "Brick", 3, 2, false, "", "", 16⟩, ⟨ "Epoch", 3, 3, false, "", "", 24⟩, ⟨ "List", 22, 4, false, "", "", 32⟩, ⟨ "Cursor", 9, 5, false, "", "", 56⟩] := by kernel_rfl
@[go_sem] theorem Tryd.siz96 : Go.Abs.siz Tryd.prog 96 = some 6 := by kernel_rfl
@[go_sem] theorem Tryd.byt96 : Go.Abs.byt Tryd.prog 96 = some 72 := by kernel_rfl
@[go_sem] theorem Tryd.azero96 : Go.Abs.aZero Tryd.prog 96 = some (6, .agg [.v (.int .i64 0), .v (.int .i64 0), .v (.int .i64 0), .v (.int .i64 0), .v (.slice none 0 0), .v (.string ByteArray.empty)]) := by kernel_rfl
@[go_sem] theorem Tryd.zer96 : Go.Abs.zer Tryd.prog 96 = some (.agg [.v (.int .i64 0), .v (.int .i64 0), .v (.int .i64 0), .v (.int .i64 0), .v (.slice none 0 0), .v (.string ByteArray.empty)]) := by kernel_rfl
@[go_sem] theorem Tryd.plainSrc96 : Go.Abs.plainSrc Tryd.prog 96 = false := by kernel_rfl
@[go_sem] theorem Tryd.fld96_0 : Go.Abs.fld Tryd.prog 96 0 = some (0, 1, false) := by kernel_rfl
@[go_sem] theorem Tryd.fld96_1 : Go.Abs.fld Tryd.prog 96 1 = some (1, 1, false) := by kernel_rfl
@[go_sem] theorem Tryd.fld96_2 : Go.Abs.fld Tryd.prog 96 2 = some (2, 1, false) := by kernel_rfl
@[go_sem] theorem Tryd.fld96_3 : Go.Abs.fld Tryd.prog 96 3 = some (3, 1, false) := by kernel_rfl
@[go_sem] theorem Tryd.fld96_4 : Go.Abs.fld Tryd.prog 96 4 = some (4, 1, false) := by kernel_rfl
@[go_sem] theorem Tryd.fld96_5 : Go.Abs.fld Tryd.prog 96 5 = some (5, 1, false) := by kernel_rfl
@[go_sem] theorem Tryd.und97 : Go.Abs.und Tryd.prog 97 = .slice 105 := by kernel_rfl
@[go_sem] theorem Tryd.siz97 : Go.Abs.siz Tryd.prog 97 = some 1 := by kernel_rfl
@[go_sem] theorem Tryd.byt97 : Go.Abs.byt Tryd.prog 97 = some 24 := by kernel_rfl
@[go_sem] theorem Tryd.azero97 : Go.Abs.aZero Tryd.prog 97 = some (1, .v (.slice none 0 0)) := by kernel_rfl
@[go_sem] theorem Tryd.zer97 : Go.Abs.zer Tryd.prog 97 = some (.v (.slice none 0 0)) := by kernel_rfl
@[go_sem] theorem Tryd.plainSrc97 : Go.Abs.plainSrc Tryd.prog 97 = true := by kernel_rfl
@[go_sem] theorem Tryd.und104 : Go.Abs.und Tryd.prog 104 = .struct #[⟨ "Epoch", 3, 0, false, "", "", 0⟩, ⟨ "Order", 22, 1, false, "", "", 8⟩, ⟨ "Repair", 22, 2, false, "", "", 32⟩] := by kernel_rfl
@[go_sem] theorem Tryd.siz104 : Go.Abs.siz Tryd.prog 104 = some 3 := by kernel_rfl
@[go_sem] theorem Tryd.byt104 : Go.Abs.byt Tryd.prog 104 = some 56 := by kernel_rfl
@[go_sem] theorem Tryd.azero104 : Go.Abs.aZero Tryd.prog 104 = some (3, .agg [.v (.int .i64 0), .v (.slice none 0 0), .v (.slice none 0 0)]) := by kernel_rfl
@[go_sem] theorem Tryd.zer104 : Go.Abs.zer Tryd.prog 104 = some (.agg [.v (.int .i64 0), .v (.slice none 0 0), .v (.slice none 0 0)]) := by kernel_rfl
@[go_sem] theorem Tryd.plainSrc104 : Go.Abs.plainSrc Tryd.prog 104 = false := by kernel_rfl
@[go_sem] theorem Tryd.fld104_0 : Go.Abs.fld Tryd.prog 104 0 = some (0, 1, false) := by kernel_rfl
@[go_sem] theorem Tryd.fld104_1 : Go.Abs.fld Tryd.prog 104 1 = some (1, 1, false) := by kernel_rfl
@[go_sem] theorem Tryd.fld104_2 : Go.Abs.fld Tryd.prog 104 2 = some (2, 1, false) := by kernel_rfl
@[go_sem] theorem Tryd.und105 : Go.Abs.und Tryd.prog 105 = .struct #[⟨ "Epoch", 3, 0, false, "", "", 0⟩, ⟨ "Order", 22, 1, false, "", "", 8⟩, ⟨ "Repair", 22, 2, false, "", "", 32⟩] := by kernel_rfl
@[go_sem] theorem Tryd.siz105 : Go.Abs.siz Tryd.prog 105 = some 3 := by kernel_rfl
@[go_sem] theorem Tryd.byt105 : Go.Abs.byt Tryd.prog 105 = some 56 := by kernel_rfl
@[go_sem] theorem Tryd.azero105 : Go.Abs.aZero Tryd.prog 105 = some (3, .agg [.v (.int .i64 0), .v (.slice none 0 0), .v (.slice none 0 0)]) := by kernel_rfl
@[go_sem] theorem Tryd.zer105 : Go.Abs.zer Tryd.prog 105 = some (.agg [.v (.int .i64 0), .v (.slice none 0 0), .v (.slice none 0 0)]) := by kernel_rfl
@[go_sem] theorem Tryd.plainSrc105 : Go.Abs.plainSrc Tryd.prog 105 = false := by kernel_rfl
@[go_sem] theorem Tryd.fld105_0 : Go.Abs.fld Tryd.prog 105 0 = some (0, 1, false) := by kernel_rfl
@[go_sem] theorem Tryd.fld105_1 : Go.Abs.fld Tryd.prog 105 1 = some (1, 1, false) := by kernel_rfl
@[go_sem] theorem Tryd.fld105_2 : Go.Abs.fld Tryd.prog 105 2 = some (2, 1, false) := by kernel_rfl
@[go_sem] theorem Tryd.und112 : Go.Abs.und Tryd.prog 112 = .slice 115 := by kernel_rfl
@[go_sem] theorem Tryd.siz112 : Go.Abs.siz Tryd.prog 112 = some 1 := by kernel_rfl
@[go_sem] theorem Tryd.byt112 : Go.Abs.byt Tryd.prog 112 = some 24 := by kernel_rfl
@[go_sem] theorem Tryd.azero112 : Go.Abs.aZero Tryd.prog 112 = some (1, .v (.slice none 0 0)) := by kernel_rfl
@[go_sem] theorem Tryd.zer112 : Go.Abs.zer Tryd.prog 112 = some (.v (.slice none 0 0)) := by kernel_rfl
@[go_sem] theorem Tryd.plainSrc112 : Go.Abs.plainSrc Tryd.prog 112 = true := by kernel_rfl
@[go_sem] theorem Tryd.und113 : Go.Abs.und Tryd.prog 113 = .struct #[⟨ "Was", 45, 0, false, "", "", 0⟩, ⟨ "Will", 45, 2, false, "", "", 32⟩, ⟨ "Cursor", 9, 4, false, "", "", 64⟩, ⟨ "Done", 4, 5, false, "", "", 80⟩, ⟨ "Rows", 112, 6, false, "", "", 88⟩] := by kernel_rfl
@[go_sem] theorem Tryd.siz113 : Go.Abs.siz Tryd.prog 113 = some 7 := by kernel_rfl
@[go_sem] theorem Tryd.byt113 : Go.Abs.byt Tryd.prog 113 = some 112 := by kernel_rfl
@[go_sem] theorem Tryd.azero113 : Go.Abs.aZero Tryd.prog 113 = some (7, .agg [.v (.int .i64 0), .v (.slice none 0 0), .v (.int .i64 0), .v (.slice none 0 0), .v (.string ByteArray.empty), .v (.bool false), .v (.slice none 0 0)]) := by kernel_rfl
@[go_sem] theorem Tryd.zer113 : Go.Abs.zer Tryd.prog 113 = some (.agg [.v (.int .i64 0), .v (.slice none 0 0), .v (.int .i64 0), .v (.slice none 0 0), .v (.string ByteArray.empty), .v (.bool false), .v (.slice none 0 0)]) := by kernel_rfl
@[go_sem] theorem Tryd.plainSrc113 : Go.Abs.plainSrc Tryd.prog 113 = false := by kernel_rfl
@[go_sem] theorem Tryd.fld113_0 : Go.Abs.fld Tryd.prog 113 0 = some (0, 2, true) := by kernel_rfl
@[go_sem] theorem Tryd.fld113_1 : Go.Abs.fld Tryd.prog 113 1 = some (2, 2, true) := by kernel_rfl
@[go_sem] theorem Tryd.fld113_2 : Go.Abs.fld Tryd.prog 113 2 = some (4, 1, false) := by kernel_rfl
@[go_sem] theorem Tryd.fld113_3 : Go.Abs.fld Tryd.prog 113 3 = some (5, 1, false) := by kernel_rfl
@[go_sem] theorem Tryd.fld113_4 : Go.Abs.fld Tryd.prog 113 4 = some (6, 1, false) := by kernel_rfl
@[go_sem] theorem Tryd.und114 : Go.Abs.und Tryd.prog 114 = .struct #[⟨ "Was", 45, 0, false, "", "", 0⟩, ⟨ "Will", 45, 2, false, "", "", 32⟩, ⟨ "Cursor", 9, 4, false, "", "", 64⟩, ⟨ "Done", 4, 5, false, "", "", 80⟩, ⟨ "Rows", 112, 6, false, "", "", 88⟩] := by kernel_rfl
@[go_sem] theorem Tryd.siz114 : Go.Abs.siz Tryd.prog 114 = some 7 := by kernel_rfl
@[go_sem] theorem Tryd.byt114 : Go.Abs.byt Tryd.prog 114 = some 112 := by kernel_rfl
@[go_sem] theorem Tryd.azero114 : Go.Abs.aZero Tryd.prog 114 = some (7, .agg [.v (.int .i64 0), .v (.slice none 0 0), .v (.int .i64 0), .v (.slice none 0 0), .v (.string ByteArray.empty), .v (.bool false), .v (.slice none 0 0)]) := by kernel_rfl
@[go_sem] theorem Tryd.zer114 : Go.Abs.zer Tryd.prog 114 = some (.agg [.v (.int .i64 0), .v (.slice none 0 0), .v (.int .i64 0), .v (.slice none 0 0), .v (.string ByteArray.empty), .v (.bool false), .v (.slice none 0 0)]) := by kernel_rfl
@[go_sem] theorem Tryd.plainSrc114 : Go.Abs.plainSrc Tryd.prog 114 = false := by kernel_rfl
@[go_sem] theorem Tryd.fld114_0 : Go.Abs.fld Tryd.prog 114 0 = some (0, 2, true) := by kernel_rfl
@[go_sem] theorem Tryd.fld114_1 : Go.Abs.fld Tryd.prog 114 1 = some (2, 2, true) := by kernel_rfl
@[go_sem] theorem Tryd.fld114_2 : Go.Abs.fld Tryd.prog 114 2 = some (4, 1, false) := by kernel_rfl
@[go_sem] theorem Tryd.fld114_3 : Go.Abs.fld Tryd.prog 114 3 = some (5, 1, false) := by kernel_rfl
@[go_sem] theorem Tryd.fld114_4 : Go.Abs.fld Tryd.prog 114 4 = some (6, 1, false) := by kernel_rfl
@[go_sem] theorem Tryd.und115 : Go.Abs.und Tryd.prog 115 = .slice 190 := by kernel_rfl
@[go_sem] theorem Tryd.siz115 : Go.Abs.siz Tryd.prog 115 = some 1 := by kernel_rfl
@[go_sem] theorem Tryd.byt115 : Go.Abs.byt Tryd.prog 115 = some 24 := by kernel_rfl
@[go_sem] theorem Tryd.azero115 : Go.Abs.aZero Tryd.prog 115 = some (1, .v (.slice none 0 0)) := by kernel_rfl
@[go_sem] theorem Tryd.zer115 : Go.Abs.zer Tryd.prog 115 = some (.v (.slice none 0 0)) := by kernel_rfl
@[go_sem] theorem Tryd.plainSrc115 : Go.Abs.plainSrc Tryd.prog 115 = true := by kernel_rfl
@[go_sem] theorem Tryd.und116 : Go.Abs.und Tryd.prog 116 = .slice 122 := by kernel_rfl
@[go_sem] theorem Tryd.siz116 : Go.Abs.siz Tryd.prog 116 = some 1 := by kernel_rfl
@[go_sem] theorem Tryd.byt116 : Go.Abs.byt Tryd.prog 116 = some 24 := by kernel_rfl
@[go_sem] theorem Tryd.azero116 : Go.Abs.aZero Tryd.prog 116 = some (1, .v (.slice none 0 0)) := by kernel_rfl
@[go_sem] theorem Tryd.zer116 : Go.Abs.zer Tryd.prog 116 = some (.v (.slice none 0 0)) := by kernel_rfl
@[go_sem] theorem Tryd.plainSrc116 : Go.Abs.plainSrc Tryd.prog 116 = true := by kernel_rfl
@[go_sem] theorem Tryd.und122 : Go.Abs.und Tryd.prog 122 = .pointer 204 := by kernel_rfl
@[go_sem] theorem Tryd.siz122 : Go.Abs.siz Tryd.prog 122 = some 1 := by kernel_rfl
@[go_sem] theorem Tryd.byt122 : Go.Abs.byt Tryd.prog 122 = some 8 := by kernel_rfl
@[go_sem] theorem Tryd.azero122 : Go.Abs.aZero Tryd.prog 122 = some (1, .v (.pointer none)) := by kernel_rfl
@[go_sem] theorem Tryd.zer122 : Go.Abs.zer Tryd.prog 122 = some (.v (.pointer none)) := by kernel_rfl
@[go_sem] theorem Tryd.plainSrc122 : Go.Abs.plainSrc Tryd.prog 122 = false := by kernel_rfl
@[go_sem] theorem Tryd.und124 : Go.Abs.und Tryd.prog 124 = .struct #[⟨ "From", 9, 0, false, "", "", 0⟩, ⟨ "To", 9, 1, false, "", "", 16⟩] := by kernel_rfl
@[go_sem] theorem Tryd.siz124 : Go.Abs.siz Tryd.prog 124 = some 2 := by kernel_rfl
@[go_sem] theorem Tryd.byt124 : Go.Abs.byt Tryd.prog 124 = some 32 := by kernel_rfl
@[go_sem] theorem Tryd.azero124 : Go.Abs.aZero Tryd.prog 124 = some (2, .agg [.v (.string ByteArray.empty), .v (.string ByteArray.empty)]) := by kernel_rfl
@[go_sem] theorem Tryd.zer124 : Go.Abs.zer Tryd.prog 124 = some (.agg [.v (.string ByteArray.empty), .v (.string ByteArray.empty)]) := by kernel_rfl
@[go_sem] theorem Tryd.plainSrc124 : Go.Abs.plainSrc Tryd.prog 124 = false := by kernel_rfl
@[go_sem] theorem Tryd.fld124_0 : Go.Abs.fld Tryd.prog 124 0 = some (0, 1, false) := by kernel_rfl
@[go_sem] theorem Tryd.fld124_1 : Go.Abs.fld Tryd.prog 124 1 = some (1, 1, false) := by kernel_rfl
@[go_sem] theorem Tryd.und125 : Go.Abs.und Tryd.prog 125 = .struct #[⟨ "From", 9, 0, false, "", "", 0⟩, ⟨ "To", 9, 1, false, "", "", 16⟩] := by kernel_rfl
@[go_sem] theorem Tryd.siz125 : Go.Abs.siz Tryd.prog 125 = some 2 := by kernel_rfl
@[go_sem] theorem Tryd.byt125 : Go.Abs.byt Tryd.prog 125 = some 32 := by kernel_rfl
@[go_sem] theorem Tryd.azero125 : Go.Abs.aZero Tryd.prog 125 = some (2, .agg [.v (.string ByteArray.empty), .v (.string ByteArray.empty)]) := by kernel_rfl
@[go_sem] theorem Tryd.zer125 : Go.Abs.zer Tryd.prog 125 = some (.agg [.v (.string ByteArray.empty), .v (.string ByteArray.empty)]) := by kernel_rfl
@[go_sem] theorem Tryd.plainSrc125 : Go.Abs.plainSrc Tryd.prog 125 = false := by kernel_rfl
@[go_sem] theorem Tryd.fld125_0 : Go.Abs.fld Tryd.prog 125 0 = some (0, 1, false) := by kernel_rfl
@[go_sem] theorem Tryd.fld125_1 : Go.Abs.fld Tryd.prog 125 1 = some (1, 1, false) := by kernel_rfl
@[go_sem] theorem Tryd.und127 : Go.Abs.und Tryd.prog 127 = .slice 134 := by kernel_rfl
@[go_sem] theorem Tryd.siz127 : Go.Abs.siz Tryd.prog 127 = some 1 := by kernel_rfl
@[go_sem] theorem Tryd.byt127 : Go.Abs.byt Tryd.prog 127 = some 24 := by kernel_rfl
@[go_sem] theorem Tryd.azero127 : Go.Abs.aZero Tryd.prog 127 = some (1, .v (.slice none 0 0)) := by kernel_rfl
@[go_sem] theorem Tryd.zer127 : Go.Abs.zer Tryd.prog 127 = some (.v (.slice none 0 0)) := by kernel_rfl
@[go_sem] theorem Tryd.plainSrc127 : Go.Abs.plainSrc Tryd.prog 127 = true := by kernel_rfl
@[go_sem] theorem Tryd.und128 : Go.Abs.und Tryd.prog 128 = .slice 134 := by kernel_rfl
@[go_sem] theorem Tryd.siz128 : Go.Abs.siz Tryd.prog 128 = some 1 := by kernel_rfl
@[go_sem] theorem Tryd.byt128 : Go.Abs.byt Tryd.prog 128 = some 24 := by kernel_rfl
@[go_sem] theorem Tryd.azero128 : Go.Abs.aZero Tryd.prog 128 = some (1, .v (.slice none 0 0)) := by kernel_rfl
@[go_sem] theorem Tryd.zer128 : Go.Abs.zer Tryd.prog 128 = some (.v (.slice none 0 0)) := by kernel_rfl
@[go_sem] theorem Tryd.plainSrc128 : Go.Abs.plainSrc Tryd.prog 128 = true := by kernel_rfl
@[go_sem] theorem Tryd.und133 : Go.Abs.und Tryd.prog 133 = .struct #[⟨ "at", 35, 0, false, "", "skylark/ring", 0⟩, ⟨ "chain", 3, 1, false, "", "skylark/ring", 8⟩, ⟨ "i", 3, 2, false, "", "skylark/ring", 16⟩] := by kernel_rfl
@[go_sem] theorem Tryd.siz133 : Go.Abs.siz Tryd.prog 133 = some 3 := by kernel_rfl
@[go_sem] theorem Tryd.byt133 : Go.Abs.byt Tryd.prog 133 = some 24 := by kernel_rfl
@[go_sem] theorem Tryd.azero133 : Go.Abs.aZero Tryd.prog 133 = some (3, .agg [.v (.int .u64 0), .v (.int .i64 0), .v (.int .i64 0)]) := by kernel_rfl
@[go_sem] theorem Tryd.zer133 : Go.Abs.zer Tryd.prog 133 = some (.agg [.v (.int .u64 0), .v (.int .i64 0), .v (.int .i64 0)]) := by kernel_rfl
@[go_sem] theorem Tryd.plainSrc133 : Go.Abs.plainSrc Tryd.prog 133 = false := by kernel_rfl
@[go_sem] theorem Tryd.fld133_0 : Go.Abs.fld Tryd.prog 133 0 = some (0, 1, false) := by kernel_rfl
@[go_sem] theorem Tryd.fld133_1 : Go.Abs.fld Tryd.prog 133 1 = some (1, 1, false) := by kernel_rfl
@[go_sem] theorem Tryd.fld133_2 : Go.Abs.fld Tryd.prog 133 2 = some (2, 1, false) := by kernel_rfl
@[go_sem] theorem Tryd.und134 : Go.Abs.und Tryd.prog 134 = .struct #[⟨ "at", 35, 0, false, "", "skylark/ring", 0⟩, ⟨ "chain", 3, 1, false, "", "skylark/ring", 8⟩, ⟨ "i", 3, 2, false, "", "skylark/ring", 16⟩] := by kernel_rfl
@[go_sem] theorem Tryd.siz134 : Go.Abs.siz Tryd.prog 134 = some 3 := by kernel_rfl
@[go_sem] theorem Tryd.byt134 : Go.Abs.byt Tryd.prog 134 = some 24 := by kernel_rfl
@[go_sem] theorem Tryd.azero134 : Go.Abs.aZero Tryd.prog 134 = some (3, .agg [.v (.int .u64 0), .v (.int .i64 0), .v (.int .i64 0)]) := by kernel_rfl
@[go_sem] theorem Tryd.zer134 : Go.Abs.zer Tryd.prog 134 = some (.agg [.v (.int .u64 0), .v (.int .i64 0), .v (.int .i64 0)]) := by kernel_rfl
@[go_sem] theorem Tryd.plainSrc134 : Go.Abs.plainSrc Tryd.prog 134 = false := by kernel_rfl
@[go_sem] theorem Tryd.fld134_0 : Go.Abs.fld Tryd.prog 134 0 = some (0, 1, false) := by kernel_rfl
@[go_sem] theorem Tryd.fld134_1 : Go.Abs.fld Tryd.prog 134 1 = some (1, 1, false) := by kernel_rfl
@[go_sem] theorem Tryd.fld134_2 : Go.Abs.fld Tryd.prog 134 2 = some (2, 1, false) := by kernel_rfl
@[go_sem] theorem Tryd.und136 : Go.Abs.und Tryd.prog 136 = .slice 139 := by kernel_rfl
@[go_sem] theorem Tryd.siz136 : Go.Abs.siz Tryd.prog 136 = some 1 := by kernel_rfl
@[go_sem] theorem Tryd.byt136 : Go.Abs.byt Tryd.prog 136 = some 24 := by kernel_rfl
@[go_sem] theorem Tryd.azero136 : Go.Abs.aZero Tryd.prog 136 = some (1, .v (.slice none 0 0)) := by kernel_rfl
@[go_sem] theorem Tryd.zer136 : Go.Abs.zer Tryd.prog 136 = some (.v (.slice none 0 0)) := by kernel_rfl
@[go_sem] theorem Tryd.plainSrc136 : Go.Abs.plainSrc Tryd.prog 136 = true := by kernel_rfl
@[go_sem] theorem Tryd.und138 : Go.Abs.und Tryd.prog 138 = .struct #[⟨ "At", 35, 0, false, "", "", 0⟩, ⟨ "Chain", 3, 1, false, "", "", 8⟩] := by kernel_rfl
@[go_sem] theorem Tryd.siz138 : Go.Abs.siz Tryd.prog 138 = some 2 := by kernel_rfl
@[go_sem] theorem Tryd.byt138 : Go.Abs.byt Tryd.prog 138 = some 16 := by kernel_rfl
@[go_sem] theorem Tryd.azero138 : Go.Abs.aZero Tryd.prog 138 = some (2, .agg [.v (.int .u64 0), .v (.int .i64 0)]) := by kernel_rfl
@[go_sem] theorem Tryd.zer138 : Go.Abs.zer Tryd.prog 138 = some (.agg [.v (.int .u64 0), .v (.int .i64 0)]) := by kernel_rfl
@[go_sem] theorem Tryd.plainSrc138 : Go.Abs.plainSrc Tryd.prog 138 = false := by kernel_rfl
@[go_sem] theorem Tryd.fld138_0 : Go.Abs.fld Tryd.prog 138 0 = some (0, 1, false) := by kernel_rfl
@[go_sem] theorem Tryd.fld138_1 : Go.Abs.fld Tryd.prog 138 1 = some (1, 1, false) := by kernel_rfl
@[go_sem] theorem Tryd.und139 : Go.Abs.und Tryd.prog 139 = .struct #[⟨ "At", 35, 0, false, "", "", 0⟩, ⟨ "Chain", 3, 1, false, "", "", 8⟩] := by kernel_rfl
@[go_sem] theorem Tryd.siz139 : Go.Abs.siz Tryd.prog 139 = some 2 := by kernel_rfl
@[go_sem] theorem Tryd.byt139 : Go.Abs.byt Tryd.prog 139 = some 16 := by kernel_rfl
@[go_sem] theorem Tryd.azero139 : Go.Abs.aZero Tryd.prog 139 = some (2, .agg [.v (.int .u64 0), .v (.int .i64 0)]) := by kernel_rfl
@[go_sem] theorem Tryd.zer139 : Go.Abs.zer Tryd.prog 139 = some (.agg [.v (.int .u64 0), .v (.int .i64 0)]) := by kernel_rfl
@[go_sem] theorem Tryd.plainSrc139 : Go.Abs.plainSrc Tryd.prog 139 = false := by kernel_rfl
@[go_sem] theorem Tryd.fld139_0 : Go.Abs.fld Tryd.prog 139 0 = some (0, 1, false) := by kernel_rfl
@[go_sem] theorem Tryd.fld139_1 : Go.Abs.fld Tryd.prog 139 1 = some (1, 1, false) := by kernel_rfl
@[go_sem] theorem Tryd.und140 : Go.Abs.und Tryd.prog 140 = .int .u64 := by kernel_rfl
@[go_sem] theorem Tryd.siz140 : Go.Abs.siz Tryd.prog 140 = some 1 := by kernel_rfl
@[go_sem] theorem Tryd.byt140 : Go.Abs.byt Tryd.prog 140 = some 8 := by kernel_rfl
@[go_sem] theorem Tryd.azero140 : Go.Abs.aZero Tryd.prog 140 = some (1, .v (.int .u64 0)) := by kernel_rfl
@[go_sem] theorem Tryd.zer140 : Go.Abs.zer Tryd.prog 140 = some (.v (.int .u64 0)) := by kernel_rfl
@[go_sem] theorem Tryd.plainSrc140 : Go.Abs.plainSrc Tryd.prog 140 = false := by kernel_rfl
@[go_sem] theorem Tryd.und144 : Go.Abs.und Tryd.prog 144 = .struct #[⟨ "cursor", 9, 0, false, "", "skylark/layout", 0⟩, ⟨ "done", 4, 1, false, "", "skylark/layout", 16⟩] := by kernel_rfl
@[go_sem] theorem Tryd.siz144 : Go.Abs.siz Tryd.prog 144 = some 2 := by kernel_rfl
@[go_sem] theorem Tryd.byt144 : Go.Abs.byt Tryd.prog 144 = some 24 := by kernel_rfl
@[go_sem] theorem Tryd.azero144 : Go.Abs.aZero Tryd.prog 144 = some (2, .agg [.v (.string ByteArray.empty), .v (.bool false)]) := by kernel_rfl
@[go_sem] theorem Tryd.zer144 : Go.Abs.zer Tryd.prog 144 = some (.agg [.v (.string ByteArray.empty), .v (.bool false)]) := by kernel_rfl
@[go_sem] theorem Tryd.plainSrc144 : Go.Abs.plainSrc Tryd.prog 144 = false := by kernel_rfl
@[go_sem] theorem Tryd.fld144_0 : Go.Abs.fld Tryd.prog 144 0 = some (0, 1, false) := by kernel_rfl
@[go_sem] theorem Tryd.fld144_1 : Go.Abs.fld Tryd.prog 144 1 = some (1, 1, false) := by kernel_rfl
@[go_sem] theorem Tryd.und145 : Go.Abs.und Tryd.prog 145 = .struct #[⟨ "cursor", 9, 0, false, "", "skylark/layout", 0⟩, ⟨ "done", 4, 1, false, "", "skylark/layout", 16⟩] := by kernel_rfl
@[go_sem] theorem Tryd.siz145 : Go.Abs.siz Tryd.prog 145 = some 2 := by kernel_rfl
@[go_sem] theorem Tryd.byt145 : Go.Abs.byt Tryd.prog 145 = some 24 := by kernel_rfl
@[go_sem] theorem Tryd.azero145 : Go.Abs.aZero Tryd.prog 145 = some (2, .agg [.v (.string ByteArray.empty), .v (.bool false)]) := by kernel_rfl
@[go_sem] theorem Tryd.zer145 : Go.Abs.zer Tryd.prog 145 = some (.agg [.v (.string ByteArray.empty), .v (.bool false)]) := by kernel_rfl
@[go_sem] theorem Tryd.plainSrc145 : Go.Abs.plainSrc Tryd.prog 145 = false := by kernel_rfl
@[go_sem] theorem Tryd.fld145_0 : Go.Abs.fld Tryd.prog 145 0 = some (0, 1, false) := by kernel_rfl
@[go_sem] theorem Tryd.fld145_1 : Go.Abs.fld Tryd.prog 145 1 = some (1, 1, false) := by kernel_rfl
@[go_sem] theorem Tryd.und150 : Go.Abs.und Tryd.prog 150 = .struct #[⟨ "waits", 4, 0, false, "", "skylark/client", 0⟩, ⟨ "there", 4, 1, false, "", "skylark/client", 1⟩] := by kernel_rfl
@[go_sem] theorem Tryd.siz150 : Go.Abs.siz Tryd.prog 150 = some 2 := by kernel_rfl
@[go_sem] theorem Tryd.byt150 : Go.Abs.byt Tryd.prog 150 = some 2 := by kernel_rfl
@[go_sem] theorem Tryd.azero150 : Go.Abs.aZero Tryd.prog 150 = some (2, .agg [.v (.bool false), .v (.bool false)]) := by kernel_rfl
@[go_sem] theorem Tryd.zer150 : Go.Abs.zer Tryd.prog 150 = some (.agg [.v (.bool false), .v (.bool false)]) := by kernel_rfl
@[go_sem] theorem Tryd.plainSrc150 : Go.Abs.plainSrc Tryd.prog 150 = false := by kernel_rfl
@[go_sem] theorem Tryd.fld150_0 : Go.Abs.fld Tryd.prog 150 0 = some (0, 1, false) := by kernel_rfl
@[go_sem] theorem Tryd.fld150_1 : Go.Abs.fld Tryd.prog 150 1 = some (1, 1, false) := by kernel_rfl
@[go_sem] theorem Tryd.und151 : Go.Abs.und Tryd.prog 151 = .struct #[⟨ "waits", 4, 0, false, "", "skylark/client", 0⟩, ⟨ "there", 4, 1, false, "", "skylark/client", 1⟩] := by kernel_rfl
@[go_sem] theorem Tryd.siz151 : Go.Abs.siz Tryd.prog 151 = some 2 := by kernel_rfl
@[go_sem] theorem Tryd.byt151 : Go.Abs.byt Tryd.prog 151 = some 2 := by kernel_rfl
@[go_sem] theorem Tryd.azero151 : Go.Abs.aZero Tryd.prog 151 = some (2, .agg [.v (.bool false), .v (.bool false)]) := by kernel_rfl
@[go_sem] theorem Tryd.zer151 : Go.Abs.zer Tryd.prog 151 = some (.agg [.v (.bool false), .v (.bool false)]) := by kernel_rfl
@[go_sem] theorem Tryd.plainSrc151 : Go.Abs.plainSrc Tryd.prog 151 = false := by kernel_rfl
@[go_sem] theorem Tryd.fld151_0 : Go.Abs.fld Tryd.prog 151 0 = some (0, 1, false) := by kernel_rfl
@[go_sem] theorem Tryd.fld151_1 : Go.Abs.fld Tryd.prog 151 1 = some (1, 1, false) := by kernel_rfl
@[go_sem] theorem Tryd.und152 : Go.Abs.und Tryd.prog 152 = .struct #[⟨ "Client", 3, 0, false, "", "", 0⟩, ⟨ "Seq", 3, 1, false, "", "", 8⟩, ⟨ "Ops", 73, 2, false, "", "", 16⟩] := by kernel_rfl
@[go_sem] theorem Tryd.siz152 : Go.Abs.siz Tryd.prog 152 = some 3 := by kernel_rfl
@[go_sem] theorem Tryd.byt152 : Go.Abs.byt Tryd.prog 152 = some 40 := by kernel_rfl
@[go_sem] theorem Tryd.azero152 : Go.Abs.aZero Tryd.prog 152 = some (3, .agg [.v (.int .i64 0), .v (.int .i64 0), .v (.slice none 0 0)]) := by kernel_rfl
@[go_sem] theorem Tryd.zer152 : Go.Abs.zer Tryd.prog 152 = some (.agg [.v (.int .i64 0), .v (.int .i64 0), .v (.slice none 0 0)]) := by kernel_rfl
@[go_sem] theorem Tryd.plainSrc152 : Go.Abs.plainSrc Tryd.prog 152 = false := by kernel_rfl
@[go_sem] theorem Tryd.fld152_0 : Go.Abs.fld Tryd.prog 152 0 = some (0, 1, false) := by kernel_rfl
@[go_sem] theorem Tryd.fld152_1 : Go.Abs.fld Tryd.prog 152 1 = some (1, 1, false) := by kernel_rfl
@[go_sem] theorem Tryd.fld152_2 : Go.Abs.fld Tryd.prog 152 2 = some (2, 1, false) := by kernel_rfl
@[go_sem] theorem Tryd.und153 : Go.Abs.und Tryd.prog 153 = .struct #[⟨ "Client", 3, 0, false, "", "", 0⟩, ⟨ "Seq", 3, 1, false, "", "", 8⟩, ⟨ "Ops", 73, 2, false, "", "", 16⟩] := by kernel_rfl
@[go_sem] theorem Tryd.siz153 : Go.Abs.siz Tryd.prog 153 = some 3 := by kernel_rfl
@[go_sem] theorem Tryd.byt153 : Go.Abs.byt Tryd.prog 153 = some 40 := by kernel_rfl
@[go_sem] theorem Tryd.azero153 : Go.Abs.aZero Tryd.prog 153 = some (3, .agg [.v (.int .i64 0), .v (.int .i64 0), .v (.slice none 0 0)]) := by kernel_rfl
@[go_sem] theorem Tryd.zer153 : Go.Abs.zer Tryd.prog 153 = some (.agg [.v (.int .i64 0), .v (.int .i64 0), .v (.slice none 0 0)]) := by kernel_rfl
@[go_sem] theorem Tryd.plainSrc153 : Go.Abs.plainSrc Tryd.prog 153 = false := by kernel_rfl
@[go_sem] theorem Tryd.fld153_0 : Go.Abs.fld Tryd.prog 153 0 = some (0, 1, false) := by kernel_rfl
@[go_sem] theorem Tryd.fld153_1 : Go.Abs.fld Tryd.prog 153 1 = some (1, 1, false) := by kernel_rfl
@[go_sem] theorem Tryd.fld153_2 : Go.Abs.fld Tryd.prog 153 2 = some (2, 1, false) := by kernel_rfl
@[go_sem] theorem Tryd.und154 : Go.Abs.und Tryd.prog 154 = .struct #[⟨ "id", 3, 0, false, "", "skylark/client", 0⟩, ⟨ "patience", 3, 1, false, "", "skylark/client", 8⟩, ⟨ "tries", 3, 2, false, "", "skylark/client", 16⟩, ⟨ "l", 45, 3, false, "", "skylark/client", 24⟩, ⟨ "now", 3, 5, false, "", "skylark/client", 56⟩, ⟨ "seq", 3, 6, false, "", "skylark/client", 64⟩, ⟨ "tried", 3, 7, false, "", "skylark/client", 72⟩, ⟨ "sent", 3, 8, false, "", "skylark/client", 80⟩, ⟨ "at", 151, 9, false, "", "skylark/client", 88⟩, ⟨ "r", 153, 11, false, "", "skylark/client", 96⟩, ⟨ "p", 83, 14, false, "", "skylark/client", 136⟩, ⟨ "out", 75, 19, false, "", "skylark/client", 192⟩] := by kernel_rfl
@[go_sem] theorem Tryd.siz154 : Go.Abs.siz Tryd.prog 154 = some 20 := by kernel_rfl
@[go_sem] theorem Tryd.byt154 : Go.Abs.byt Tryd.prog 154 = some 216 := by kernel_rfl
@[go_sem] theorem Tryd.azero154 : Go.Abs.aZero Tryd.prog 154 = some (20, .agg [.v (.int .i64 0), .v (.int .i64 0), .v (.int .i64 0), .v (.int .i64 0), .v (.slice none 0 0), .v (.int .i64 0), .v (.int .i64 0), .v (.int .i64 0), .v (.int .i64 0), .v (.bool false), .v (.bool false), .v (.int .i64 0), .v (.int .i64 0), .v (.slice none 0 0), .v (.int .i64 0), .v (.int .i64 0), .v (.slice none 0 0), .v (.int .i64 0), .v (.int .i64 0), .v (.slice none 0 0)]) := by kernel_rfl
@[go_sem] theorem Tryd.zer154 : Go.Abs.zer Tryd.prog 154 = some (.agg [.v (.int .i64 0), .v (.int .i64 0), .v (.int .i64 0), .v (.int .i64 0), .v (.slice none 0 0), .v (.int .i64 0), .v (.int .i64 0), .v (.int .i64 0), .v (.int .i64 0), .v (.bool false), .v (.bool false), .v (.int .i64 0), .v (.int .i64 0), .v (.slice none 0 0), .v (.int .i64 0), .v (.int .i64 0), .v (.slice none 0 0), .v (.int .i64 0), .v (.int .i64 0), .v (.slice none 0 0)]) := by kernel_rfl
@[go_sem] theorem Tryd.plainSrc154 : Go.Abs.plainSrc Tryd.prog 154 = false := by kernel_rfl
@[go_sem] theorem Tryd.fld154_0 : Go.Abs.fld Tryd.prog 154 0 = some (0, 1, false) := by kernel_rfl
@[go_sem] theorem Tryd.fld154_1 : Go.Abs.fld Tryd.prog 154 1 = some (1, 1, false) := by kernel_rfl
@[go_sem] theorem Tryd.fld154_2 : Go.Abs.fld Tryd.prog 154 2 = some (2, 1, false) := by kernel_rfl
@[go_sem] theorem Tryd.fld154_3 : Go.Abs.fld Tryd.prog 154 3 = some (3, 2, true) := by kernel_rfl
@[go_sem] theorem Tryd.fld154_4 : Go.Abs.fld Tryd.prog 154 4 = some (5, 1, false) := by kernel_rfl
@[go_sem] theorem Tryd.fld154_5 : Go.Abs.fld Tryd.prog 154 5 = some (6, 1, false) := by kernel_rfl
@[go_sem] theorem Tryd.fld154_6 : Go.Abs.fld Tryd.prog 154 6 = some (7, 1, false) := by kernel_rfl
@[go_sem] theorem Tryd.fld154_7 : Go.Abs.fld Tryd.prog 154 7 = some (8, 1, false) := by kernel_rfl
@[go_sem] theorem Tryd.fld154_8 : Go.Abs.fld Tryd.prog 154 8 = some (9, 2, true) := by kernel_rfl
@[go_sem] theorem Tryd.fld154_9 : Go.Abs.fld Tryd.prog 154 9 = some (11, 3, true) := by kernel_rfl
@[go_sem] theorem Tryd.fld154_10 : Go.Abs.fld Tryd.prog 154 10 = some (14, 5, true) := by kernel_rfl
@[go_sem] theorem Tryd.fld154_11 : Go.Abs.fld Tryd.prog 154 11 = some (19, 1, false) := by kernel_rfl
@[go_sem] theorem Tryd.und155 : Go.Abs.und Tryd.prog 155 = .struct #[⟨ "id", 3, 0, false, "", "skylark/client", 0⟩, ⟨ "patience", 3, 1, false, "", "skylark/client", 8⟩, ⟨ "tries", 3, 2, false, "", "skylark/client", 16⟩, ⟨ "l", 45, 3, false, "", "skylark/client", 24⟩, ⟨ "now", 3, 5, false, "", "skylark/client", 56⟩, ⟨ "seq", 3, 6, false, "", "skylark/client", 64⟩, ⟨ "tried", 3, 7, false, "", "skylark/client", 72⟩, ⟨ "sent", 3, 8, false, "", "skylark/client", 80⟩, ⟨ "at", 151, 9, false, "", "skylark/client", 88⟩, ⟨ "r", 153, 11, false, "", "skylark/client", 96⟩, ⟨ "p", 83, 14, false, "", "skylark/client", 136⟩, ⟨ "out", 75, 19, false, "", "skylark/client", 192⟩] := by kernel_rfl
@[go_sem] theorem Tryd.siz155 : Go.Abs.siz Tryd.prog 155 = some 20 := by kernel_rfl
@[go_sem] theorem Tryd.byt155 : Go.Abs.byt Tryd.prog 155 = some 216 := by kernel_rfl
@[go_sem] theorem Tryd.azero155 : Go.Abs.aZero Tryd.prog 155 = some (20, .agg [.v (.int .i64 0), .v (.int .i64 0), .v (.int .i64 0), .v (.int .i64 0), .v (.slice none 0 0), .v (.int .i64 0), .v (.int .i64 0), .v (.int .i64 0), .v (.int .i64 0), .v (.bool false), .v (.bool false), .v (.int .i64 0), .v (.int .i64 0), .v (.slice none 0 0), .v (.int .i64 0), .v (.int .i64 0), .v (.slice none 0 0), .v (.int .i64 0), .v (.int .i64 0), .v (.slice none 0 0)]) := by kernel_rfl
@[go_sem] theorem Tryd.zer155 : Go.Abs.zer Tryd.prog 155 = some (.agg [.v (.int .i64 0), .v (.int .i64 0), .v (.int .i64 0), .v (.int .i64 0), .v (.slice none 0 0), .v (.int .i64 0), .v (.int .i64 0), .v (.int .i64 0), .v (.int .i64 0), .v (.bool false), .v (.bool false), .v (.int .i64 0), .v (.int .i64 0), .v (.slice none 0 0), .v (.int .i64 0), .v (.int .i64 0), .v (.slice none 0 0), .v (.int .i64 0), .v (.int .i64 0), .v (.slice none 0 0)]) := by kernel_rfl
@[go_sem] theorem Tryd.plainSrc155 : Go.Abs.plainSrc Tryd.prog 155 = false := by kernel_rfl
@[go_sem] theorem Tryd.fld155_0 : Go.Abs.fld Tryd.prog 155 0 = some (0, 1, false) := by kernel_rfl
@[go_sem] theorem Tryd.fld155_1 : Go.Abs.fld Tryd.prog 155 1 = some (1, 1, false) := by kernel_rfl
@[go_sem] theorem Tryd.fld155_2 : Go.Abs.fld Tryd.prog 155 2 = some (2, 1, false) := by kernel_rfl
@[go_sem] theorem Tryd.fld155_3 : Go.Abs.fld Tryd.prog 155 3 = some (3, 2, true) := by kernel_rfl
@[go_sem] theorem Tryd.fld155_4 : Go.Abs.fld Tryd.prog 155 4 = some (5, 1, false) := by kernel_rfl
@[go_sem] theorem Tryd.fld155_5 : Go.Abs.fld Tryd.prog 155 5 = some (6, 1, false) := by kernel_rfl
@[go_sem] theorem Tryd.fld155_6 : Go.Abs.fld Tryd.prog 155 6 = some (7, 1, false) := by kernel_rfl
@[go_sem] theorem Tryd.fld155_7 : Go.Abs.fld Tryd.prog 155 7 = some (8, 1, false) := by kernel_rfl
@[go_sem] theorem Tryd.fld155_8 : Go.Abs.fld Tryd.prog 155 8 = some (9, 2, true) := by kernel_rfl
@[go_sem] theorem Tryd.fld155_9 : Go.Abs.fld Tryd.prog 155 9 = some (11, 3, true) := by kernel_rfl
@[go_sem] theorem Tryd.fld155_10 : Go.Abs.fld Tryd.prog 155 10 = some (14, 5, true) := by kernel_rfl
@[go_sem] theorem Tryd.fld155_11 : Go.Abs.fld Tryd.prog 155 11 = some (19, 1, false) := by kernel_rfl
@[go_sem] theorem Tryd.und157 : Go.Abs.und Tryd.prog 157 = .struct #[⟨ "Kind", 3, 0, false, "", "", 0⟩, ⟨ "Key", 9, 1, false, "", "", 8⟩, ⟨ "Val", 9, 2, false, "", "", 24⟩, ⟨ "Stamp", 3, 3, false, "", "", 40⟩, ⟨ "Test", 3, 4, false, "", "", 48⟩, ⟨ "Most", 3, 5, false, "", "", 56⟩] := by kernel_rfl
@[go_sem] theorem Tryd.siz157 : Go.Abs.siz Tryd.prog 157 = some 6 := by kernel_rfl
@[go_sem] theorem Tryd.byt157 : Go.Abs.byt Tryd.prog 157 = some 64 := by kernel_rfl
@[go_sem] theorem Tryd.azero157 : Go.Abs.aZero Tryd.prog 157 = some (6, .agg [.v (.int .i64 0), .v (.string ByteArray.empty), .v (.string ByteArray.empty), .v (.int .i64 0), .v (.int .i64 0), .v (.int .i64 0)]) := by kernel_rfl
@[go_sem] theorem Tryd.zer157 : Go.Abs.zer Tryd.prog 157 = some (.agg [.v (.int .i64 0), .v (.string ByteArray.empty), .v (.string ByteArray.empty), .v (.int .i64 0), .v (.int .i64 0), .v (.int .i64 0)]) := by kernel_rfl
@[go_sem] theorem Tryd.plainSrc157 : Go.Abs.plainSrc Tryd.prog 157 = false := by kernel_rfl
@[go_sem] theorem Tryd.fld157_0 : Go.Abs.fld Tryd.prog 157 0 = some (0, 1, false) := by kernel_rfl
@[go_sem] theorem Tryd.fld157_1 : Go.Abs.fld Tryd.prog 157 1 = some (1, 1, false) := by kernel_rfl
@[go_sem] theorem Tryd.fld157_2 : Go.Abs.fld Tryd.prog 157 2 = some (2, 1, false) := by kernel_rfl
@[go_sem] theorem Tryd.fld157_3 : Go.Abs.fld Tryd.prog 157 3 = some (3, 1, false) := by kernel_rfl
@[go_sem] theorem Tryd.fld157_4 : Go.Abs.fld Tryd.prog 157 4 = some (4, 1, false) := by kernel_rfl
@[go_sem] theorem Tryd.fld157_5 : Go.Abs.fld Tryd.prog 157 5 = some (5, 1, false) := by kernel_rfl
@[go_sem] theorem Tryd.und158 : Go.Abs.und Tryd.prog 158 = .struct #[⟨ "Kind", 3, 0, false, "", "", 0⟩, ⟨ "Key", 9, 1, false, "", "", 8⟩, ⟨ "Val", 9, 2, false, "", "", 24⟩, ⟨ "Stamp", 3, 3, false, "", "", 40⟩, ⟨ "Test", 3, 4, false, "", "", 48⟩, ⟨ "Most", 3, 5, false, "", "", 56⟩] := by kernel_rfl
@[go_sem] theorem Tryd.siz158 : Go.Abs.siz Tryd.prog 158 = some 6 := by kernel_rfl
@[go_sem] theorem Tryd.byt158 : Go.Abs.byt Tryd.prog 158 = some 64 := by kernel_rfl
@[go_sem] theorem Tryd.azero158 : Go.Abs.aZero Tryd.prog 158 = some (6, .agg [.v (.int .i64 0), .v (.string ByteArray.empty), .v (.string ByteArray.empty), .v (.int .i64 0), .v (.int .i64 0), .v (.int .i64 0)]) := by kernel_rfl
@[go_sem] theorem Tryd.zer158 : Go.Abs.zer Tryd.prog 158 = some (.agg [.v (.int .i64 0), .v (.string ByteArray.empty), .v (.string ByteArray.empty), .v (.int .i64 0), .v (.int .i64 0), .v (.int .i64 0)]) := by kernel_rfl
@[go_sem] theorem Tryd.plainSrc158 : Go.Abs.plainSrc Tryd.prog 158 = false := by kernel_rfl
@[go_sem] theorem Tryd.fld158_0 : Go.Abs.fld Tryd.prog 158 0 = some (0, 1, false) := by kernel_rfl
@[go_sem] theorem Tryd.fld158_1 : Go.Abs.fld Tryd.prog 158 1 = some (1, 1, false) := by kernel_rfl
@[go_sem] theorem Tryd.fld158_2 : Go.Abs.fld Tryd.prog 158 2 = some (2, 1, false) := by kernel_rfl
@[go_sem] theorem Tryd.fld158_3 : Go.Abs.fld Tryd.prog 158 3 = some (3, 1, false) := by kernel_rfl
@[go_sem] theorem Tryd.fld158_4 : Go.Abs.fld Tryd.prog 158 4 = some (4, 1, false) := by kernel_rfl
@[go_sem] theorem Tryd.fld158_5 : Go.Abs.fld Tryd.prog 158 5 = some (5, 1, false) := by kernel_rfl
@[go_sem] theorem Tryd.und165 : Go.Abs.und Tryd.prog 165 = .struct #[⟨ "c", 96, 0, false, "", "skylark/skylarklaw18", 0⟩, ⟨ "order", 22, 6, false, "", "skylark/skylarklaw18", 72⟩, ⟨ "repair", 22, 7, false, "", "skylark/skylarklaw18", 96⟩] := by kernel_rfl
@[go_sem] theorem Tryd.siz165 : Go.Abs.siz Tryd.prog 165 = some 8 := by kernel_rfl
@[go_sem] theorem Tryd.byt165 : Go.Abs.byt Tryd.prog 165 = some 120 := by kernel_rfl
@[go_sem] theorem Tryd.azero165 : Go.Abs.aZero Tryd.prog 165 = some (8, .agg [.v (.int .i64 0), .v (.int .i64 0), .v (.int .i64 0), .v (.int .i64 0), .v (.slice none 0 0), .v (.string ByteArray.empty), .v (.slice none 0 0), .v (.slice none 0 0)]) := by kernel_rfl
@[go_sem] theorem Tryd.zer165 : Go.Abs.zer Tryd.prog 165 = some (.agg [.v (.int .i64 0), .v (.int .i64 0), .v (.int .i64 0), .v (.int .i64 0), .v (.slice none 0 0), .v (.string ByteArray.empty), .v (.slice none 0 0), .v (.slice none 0 0)]) := by kernel_rfl
@[go_sem] theorem Tryd.plainSrc165 : Go.Abs.plainSrc Tryd.prog 165 = false := by kernel_rfl
@[go_sem] theorem Tryd.fld165_0 : Go.Abs.fld Tryd.prog 165 0 = some (0, 6, true) := by kernel_rfl
@[go_sem] theorem Tryd.fld165_1 : Go.Abs.fld Tryd.prog 165 1 = some (6, 1, false) := by kernel_rfl
@[go_sem] theorem Tryd.fld165_2 : Go.Abs.fld Tryd.prog 165 2 = some (7, 1, false) := by kernel_rfl
@[go_sem] theorem Tryd.und166 : Go.Abs.und Tryd.prog 166 = .slice 165 := by kernel_rfl
@[go_sem] theorem Tryd.siz166 : Go.Abs.siz Tryd.prog 166 = some 1 := by kernel_rfl
@[go_sem] theorem Tryd.byt166 : Go.Abs.byt Tryd.prog 166 = some 24 := by kernel_rfl
@[go_sem] theorem Tryd.azero166 : Go.Abs.aZero Tryd.prog 166 = some (1, .v (.slice none 0 0)) := by kernel_rfl
@[go_sem] theorem Tryd.zer166 : Go.Abs.zer Tryd.prog 166 = some (.v (.slice none 0 0)) := by kernel_rfl
@[go_sem] theorem Tryd.plainSrc166 : Go.Abs.plainSrc Tryd.prog 166 = true := by kernel_rfl
@[go_sem] theorem Tryd.und167 : Go.Abs.und Tryd.prog 167 = .slice 170 := by kernel_rfl
@[go_sem] theorem Tryd.siz167 : Go.Abs.siz Tryd.prog 167 = some 1 := by kernel_rfl
@[go_sem] theorem Tryd.byt167 : Go.Abs.byt Tryd.prog 167 = some 24 := by kernel_rfl
@[go_sem] theorem Tryd.azero167 : Go.Abs.aZero Tryd.prog 167 = some (1, .v (.slice none 0 0)) := by kernel_rfl
@[go_sem] theorem Tryd.zer167 : Go.Abs.zer Tryd.prog 167 = some (.v (.slice none 0 0)) := by kernel_rfl
@[go_sem] theorem Tryd.plainSrc167 : Go.Abs.plainSrc Tryd.prog 167 = true := by kernel_rfl
@[go_sem] theorem Tryd.und169 : Go.Abs.und Tryd.prog 169 = .struct #[⟨ "state", 3, 0, false, "", "skylark/admin", 0⟩, ⟨ "chain", 3, 1, false, "", "skylark/admin", 8⟩] := by kernel_rfl
@[go_sem] theorem Tryd.siz169 : Go.Abs.siz Tryd.prog 169 = some 2 := by kernel_rfl
@[go_sem] theorem Tryd.byt169 : Go.Abs.byt Tryd.prog 169 = some 16 := by kernel_rfl
@[go_sem] theorem Tryd.azero169 : Go.Abs.aZero Tryd.prog 169 = some (2, .agg [.v (.int .i64 0), .v (.int .i64 0)]) := by kernel_rfl
@[go_sem] theorem Tryd.zer169 : Go.Abs.zer Tryd.prog 169 = some (.agg [.v (.int .i64 0), .v (.int .i64 0)]) := by kernel_rfl
@[go_sem] theorem Tryd.plainSrc169 : Go.Abs.plainSrc Tryd.prog 169 = false := by kernel_rfl
@[go_sem] theorem Tryd.fld169_0 : Go.Abs.fld Tryd.prog 169 0 = some (0, 1, false) := by kernel_rfl
@[go_sem] theorem Tryd.fld169_1 : Go.Abs.fld Tryd.prog 169 1 = some (1, 1, false) := by kernel_rfl
@[go_sem] theorem Tryd.und170 : Go.Abs.und Tryd.prog 170 = .struct #[⟨ "state", 3, 0, false, "", "skylark/admin", 0⟩, ⟨ "chain", 3, 1, false, "", "skylark/admin", 8⟩] := by kernel_rfl
@[go_sem] theorem Tryd.siz170 : Go.Abs.siz Tryd.prog 170 = some 2 := by kernel_rfl
@[go_sem] theorem Tryd.byt170 : Go.Abs.byt Tryd.prog 170 = some 16 := by kernel_rfl
@[go_sem] theorem Tryd.azero170 : Go.Abs.aZero Tryd.prog 170 = some (2, .agg [.v (.int .i64 0), .v (.int .i64 0)]) := by kernel_rfl
@[go_sem] theorem Tryd.zer170 : Go.Abs.zer Tryd.prog 170 = some (.agg [.v (.int .i64 0), .v (.int .i64 0)]) := by kernel_rfl
@[go_sem] theorem Tryd.plainSrc170 : Go.Abs.plainSrc Tryd.prog 170 = false := by kernel_rfl
@[go_sem] theorem Tryd.fld170_0 : Go.Abs.fld Tryd.prog 170 0 = some (0, 1, false) := by kernel_rfl
@[go_sem] theorem Tryd.fld170_1 : Go.Abs.fld Tryd.prog 170 1 = some (1, 1, false) := by kernel_rfl
@[go_sem] theorem Tryd.und171 : Go.Abs.und Tryd.prog 171 = .pointer 48 := by kernel_rfl
@[go_sem] theorem Tryd.siz171 : Go.Abs.siz Tryd.prog 171 = some 1 := by kernel_rfl
@[go_sem] theorem Tryd.byt171 : Go.Abs.byt Tryd.prog 171 = some 8 := by kernel_rfl
@[go_sem] theorem Tryd.azero171 : Go.Abs.aZero Tryd.prog 171 = some (1, .v (.pointer none)) := by kernel_rfl
@[go_sem] theorem Tryd.zer171 : Go.Abs.zer Tryd.prog 171 = some (.v (.pointer none)) := by kernel_rfl
@[go_sem] theorem Tryd.plainSrc171 : Go.Abs.plainSrc Tryd.prog 171 = false := by kernel_rfl
@[go_sem] theorem Tryd.und172 : Go.Abs.und Tryd.prog 172 = .struct #[⟨ "bricks", 167, 0, false, "", "skylark/admin", 0⟩, ⟨ "chains", 97, 1, false, "", "skylark/admin", 24⟩, ⟨ "layout", 45, 2, false, "", "skylark/admin", 48⟩, ⟨ "change", 171, 4, false, "", "skylark/admin", 80⟩] := by kernel_rfl
@[go_sem] theorem Tryd.siz172 : Go.Abs.siz Tryd.prog 172 = some 5 := by kernel_rfl
@[go_sem] theorem Tryd.byt172 : Go.Abs.byt Tryd.prog 172 = some 88 := by kernel_rfl
@[go_sem] theorem Tryd.azero172 : Go.Abs.aZero Tryd.prog 172 = some (5, .agg [.v (.slice none 0 0), .v (.slice none 0 0), .v (.int .i64 0), .v (.slice none 0 0), .v (.pointer none)]) := by kernel_rfl
@[go_sem] theorem Tryd.zer172 : Go.Abs.zer Tryd.prog 172 = some (.agg [.v (.slice none 0 0), .v (.slice none 0 0), .v (.int .i64 0), .v (.slice none 0 0), .v (.pointer none)]) := by kernel_rfl
@[go_sem] theorem Tryd.plainSrc172 : Go.Abs.plainSrc Tryd.prog 172 = false := by kernel_rfl
@[go_sem] theorem Tryd.fld172_0 : Go.Abs.fld Tryd.prog 172 0 = some (0, 1, false) := by kernel_rfl
@[go_sem] theorem Tryd.fld172_1 : Go.Abs.fld Tryd.prog 172 1 = some (1, 1, false) := by kernel_rfl
@[go_sem] theorem Tryd.fld172_2 : Go.Abs.fld Tryd.prog 172 2 = some (2, 2, true) := by kernel_rfl
@[go_sem] theorem Tryd.fld172_3 : Go.Abs.fld Tryd.prog 172 3 = some (4, 1, false) := by kernel_rfl
@[go_sem] theorem Tryd.und173 : Go.Abs.und Tryd.prog 173 = .struct #[⟨ "bricks", 167, 0, false, "", "skylark/admin", 0⟩, ⟨ "chains", 97, 1, false, "", "skylark/admin", 24⟩, ⟨ "layout", 45, 2, false, "", "skylark/admin", 48⟩, ⟨ "change", 171, 4, false, "", "skylark/admin", 80⟩] := by kernel_rfl
@[go_sem] theorem Tryd.siz173 : Go.Abs.siz Tryd.prog 173 = some 5 := by kernel_rfl
@[go_sem] theorem Tryd.byt173 : Go.Abs.byt Tryd.prog 173 = some 88 := by kernel_rfl
@[go_sem] theorem Tryd.azero173 : Go.Abs.aZero Tryd.prog 173 = some (5, .agg [.v (.slice none 0 0), .v (.slice none 0 0), .v (.int .i64 0), .v (.slice none 0 0), .v (.pointer none)]) := by kernel_rfl
@[go_sem] theorem Tryd.zer173 : Go.Abs.zer Tryd.prog 173 = some (.agg [.v (.slice none 0 0), .v (.slice none 0 0), .v (.int .i64 0), .v (.slice none 0 0), .v (.pointer none)]) := by kernel_rfl
@[go_sem] theorem Tryd.plainSrc173 : Go.Abs.plainSrc Tryd.prog 173 = false := by kernel_rfl
@[go_sem] theorem Tryd.fld173_0 : Go.Abs.fld Tryd.prog 173 0 = some (0, 1, false) := by kernel_rfl
@[go_sem] theorem Tryd.fld173_1 : Go.Abs.fld Tryd.prog 173 1 = some (1, 1, false) := by kernel_rfl
@[go_sem] theorem Tryd.fld173_2 : Go.Abs.fld Tryd.prog 173 2 = some (2, 2, true) := by kernel_rfl
@[go_sem] theorem Tryd.fld173_3 : Go.Abs.fld Tryd.prog 173 3 = some (4, 1, false) := by kernel_rfl
@[go_sem] theorem Tryd.und174 : Go.Abs.und Tryd.prog 174 = .slice 178 := by kernel_rfl
@[go_sem] theorem Tryd.siz174 : Go.Abs.siz Tryd.prog 174 = some 1 := by kernel_rfl
@[go_sem] theorem Tryd.byt174 : Go.Abs.byt Tryd.prog 174 = some 24 := by kernel_rfl
@[go_sem] theorem Tryd.azero174 : Go.Abs.aZero Tryd.prog 174 = some (1, .v (.slice none 0 0)) := by kernel_rfl
@[go_sem] theorem Tryd.zer174 : Go.Abs.zer Tryd.prog 174 = some (.v (.slice none 0 0)) := by kernel_rfl
@[go_sem] theorem Tryd.plainSrc174 : Go.Abs.plainSrc Tryd.prog 174 = true := by kernel_rfl
@[go_sem] theorem Tryd.und177 : Go.Abs.und Tryd.prog 177 = .struct #[⟨ "chain", 4, 0, false, "", "skylark/admin", 0⟩, ⟨ "brick", 4, 1, false, "", "skylark/admin", 1⟩, ⟨ "epoch", 4, 2, false, "", "skylark/admin", 2⟩, ⟨ "list", 4, 3, false, "", "skylark/admin", 3⟩, ⟨ "cursor", 4, 4, false, "", "skylark/admin", 4⟩, ⟨ "do", 176, 5, false, "", "skylark/admin", 8⟩] := by kernel_rfl
@[go_sem] theorem Tryd.siz177 : Go.Abs.siz Tryd.prog 177 = some 6 := by kernel_rfl
@[go_sem] theorem Tryd.byt177 : Go.Abs.byt Tryd.prog 177 = some 16 := by kernel_rfl
@[go_sem] theorem Tryd.azero177 : Go.Abs.aZero Tryd.prog 177 = some (6, .agg [.v (.bool false), .v (.bool false), .v (.bool false), .v (.bool false), .v (.bool false), .v (.nilFunc)]) := by kernel_rfl
@[go_sem] theorem Tryd.zer177 : Go.Abs.zer Tryd.prog 177 = some (.agg [.v (.bool false), .v (.bool false), .v (.bool false), .v (.bool false), .v (.bool false), .v (.nilFunc)]) := by kernel_rfl
@[go_sem] theorem Tryd.plainSrc177 : Go.Abs.plainSrc Tryd.prog 177 = false := by kernel_rfl
@[go_sem] theorem Tryd.fld177_0 : Go.Abs.fld Tryd.prog 177 0 = some (0, 1, false) := by kernel_rfl
@[go_sem] theorem Tryd.fld177_1 : Go.Abs.fld Tryd.prog 177 1 = some (1, 1, false) := by kernel_rfl
@[go_sem] theorem Tryd.fld177_2 : Go.Abs.fld Tryd.prog 177 2 = some (2, 1, false) := by kernel_rfl
@[go_sem] theorem Tryd.fld177_3 : Go.Abs.fld Tryd.prog 177 3 = some (3, 1, false) := by kernel_rfl
@[go_sem] theorem Tryd.fld177_4 : Go.Abs.fld Tryd.prog 177 4 = some (4, 1, false) := by kernel_rfl
@[go_sem] theorem Tryd.fld177_5 : Go.Abs.fld Tryd.prog 177 5 = some (5, 1, false) := by kernel_rfl
@[go_sem] theorem Tryd.und178 : Go.Abs.und Tryd.prog 178 = .struct #[⟨ "chain", 4, 0, false, "", "skylark/admin", 0⟩, ⟨ "brick", 4, 1, false, "", "skylark/admin", 1⟩, ⟨ "epoch", 4, 2, false, "", "skylark/admin", 2⟩, ⟨ "list", 4, 3, false, "", "skylark/admin", 3⟩, ⟨ "cursor", 4, 4, false, "", "skylark/admin", 4⟩, ⟨ "do", 176, 5, false, "", "skylark/admin", 8⟩] := by kernel_rfl
@[go_sem] theorem Tryd.siz178 : Go.Abs.siz Tryd.prog 178 = some 6 := by kernel_rfl
@[go_sem] theorem Tryd.byt178 : Go.Abs.byt Tryd.prog 178 = some 16 := by kernel_rfl
@[go_sem] theorem Tryd.azero178 : Go.Abs.aZero Tryd.prog 178 = some (6, .agg [.v (.bool false), .v (.bool false), .v (.bool false), .v (.bool false), .v (.bool false), .v (.nilFunc)]) := by kernel_rfl
@[go_sem] theorem Tryd.zer178 : Go.Abs.zer Tryd.prog 178 = some (.agg [.v (.bool false), .v (.bool false), .v (.bool false), .v (.bool false), .v (.bool false), .v (.nilFunc)]) := by kernel_rfl
@[go_sem] theorem Tryd.plainSrc178 : Go.Abs.plainSrc Tryd.prog 178 = false := by kernel_rfl
@[go_sem] theorem Tryd.fld178_0 : Go.Abs.fld Tryd.prog 178 0 = some (0, 1, false) := by kernel_rfl
@[go_sem] theorem Tryd.fld178_1 : Go.Abs.fld Tryd.prog 178 1 = some (1, 1, false) := by kernel_rfl
@[go_sem] theorem Tryd.fld178_2 : Go.Abs.fld Tryd.prog 178 2 = some (2, 1, false) := by kernel_rfl
@[go_sem] theorem Tryd.fld178_3 : Go.Abs.fld Tryd.prog 178 3 = some (3, 1, false) := by kernel_rfl
@[go_sem] theorem Tryd.fld178_4 : Go.Abs.fld Tryd.prog 178 4 = some (4, 1, false) := by kernel_rfl
@[go_sem] theorem Tryd.fld178_5 : Go.Abs.fld Tryd.prog 178 5 = some (5, 1, false) := by kernel_rfl
@[go_sem] theorem Tryd.und181 : Go.Abs.und Tryd.prog 181 = .struct #[⟨ "Text", 4, 0, false, "", "", 0⟩, ⟨ "N", 2, 1, false, "", "", 8⟩, ⟨ "S", 9, 2, false, "", "", 16⟩] := by kernel_rfl
@[go_sem] theorem Tryd.siz181 : Go.Abs.siz Tryd.prog 181 = some 3 := by kernel_rfl
@[go_sem] theorem Tryd.byt181 : Go.Abs.byt Tryd.prog 181 = some 32 := by kernel_rfl
@[go_sem] theorem Tryd.azero181 : Go.Abs.aZero Tryd.prog 181 = some (3, .agg [.v (.bool false), .v (.int .i64 0), .v (.string ByteArray.empty)]) := by kernel_rfl
@[go_sem] theorem Tryd.zer181 : Go.Abs.zer Tryd.prog 181 = some (.agg [.v (.bool false), .v (.int .i64 0), .v (.string ByteArray.empty)]) := by kernel_rfl
@[go_sem] theorem Tryd.plainSrc181 : Go.Abs.plainSrc Tryd.prog 181 = false := by kernel_rfl
@[go_sem] theorem Tryd.fld181_0 : Go.Abs.fld Tryd.prog 181 0 = some (0, 1, false) := by kernel_rfl
@[go_sem] theorem Tryd.fld181_1 : Go.Abs.fld Tryd.prog 181 1 = some (1, 1, false) := by kernel_rfl
@[go_sem] theorem Tryd.fld181_2 : Go.Abs.fld Tryd.prog 181 2 = some (2, 1, false) := by kernel_rfl
@[go_sem] theorem Tryd.und182 : Go.Abs.und Tryd.prog 182 = .struct #[⟨ "Text", 4, 0, false, "", "", 0⟩, ⟨ "N", 2, 1, false, "", "", 8⟩, ⟨ "S", 9, 2, false, "", "", 16⟩] := by kernel_rfl
@[go_sem] theorem Tryd.siz182 : Go.Abs.siz Tryd.prog 182 = some 3 := by kernel_rfl
@[go_sem] theorem Tryd.byt182 : Go.Abs.byt Tryd.prog 182 = some 32 := by kernel_rfl
@[go_sem] theorem Tryd.azero182 : Go.Abs.aZero Tryd.prog 182 = some (3, .agg [.v (.bool false), .v (.int .i64 0), .v (.string ByteArray.empty)]) := by kernel_rfl
@[go_sem] theorem Tryd.zer182 : Go.Abs.zer Tryd.prog 182 = some (.agg [.v (.bool false), .v (.int .i64 0), .v (.string ByteArray.empty)]) := by kernel_rfl
@[go_sem] theorem Tryd.plainSrc182 : Go.Abs.plainSrc Tryd.prog 182 = false := by kernel_rfl
@[go_sem] theorem Tryd.fld182_0 : Go.Abs.fld Tryd.prog 182 0 = some (0, 1, false) := by kernel_rfl
@[go_sem] theorem Tryd.fld182_1 : Go.Abs.fld Tryd.prog 182 1 = some (1, 1, false) := by kernel_rfl
@[go_sem] theorem Tryd.fld182_2 : Go.Abs.fld Tryd.prog 182 2 = some (2, 1, false) := by kernel_rfl
@[go_sem] theorem Tryd.und183 : Go.Abs.und Tryd.prog 183 = .slice 182 := by kernel_rfl
@[go_sem] theorem Tryd.siz183 : Go.Abs.siz Tryd.prog 183 = some 1 := by kernel_rfl
@[go_sem] theorem Tryd.byt183 : Go.Abs.byt Tryd.prog 183 = some 24 := by kernel_rfl
@[go_sem] theorem Tryd.azero183 : Go.Abs.aZero Tryd.prog 183 = some (1, .v (.slice none 0 0)) := by kernel_rfl
@[go_sem] theorem Tryd.zer183 : Go.Abs.zer Tryd.prog 183 = some (.v (.slice none 0 0)) := by kernel_rfl
@[go_sem] theorem Tryd.plainSrc183 : Go.Abs.plainSrc Tryd.prog 183 = true := by kernel_rfl
@[go_sem] theorem Tryd.und189 : Go.Abs.und Tryd.prog 189 = .struct #[⟨ "Key", 9, 0, false, "", "", 0⟩, ⟨ "Stamp", 3, 1, false, "", "", 16⟩, ⟨ "Val", 9, 2, false, "", "", 24⟩] := by kernel_rfl
@[go_sem] theorem Tryd.siz189 : Go.Abs.siz Tryd.prog 189 = some 3 := by kernel_rfl
@[go_sem] theorem Tryd.byt189 : Go.Abs.byt Tryd.prog 189 = some 40 := by kernel_rfl
@[go_sem] theorem Tryd.azero189 : Go.Abs.aZero Tryd.prog 189 = some (3, .agg [.v (.string ByteArray.empty), .v (.int .i64 0), .v (.string ByteArray.empty)]) := by kernel_rfl
@[go_sem] theorem Tryd.zer189 : Go.Abs.zer Tryd.prog 189 = some (.agg [.v (.string ByteArray.empty), .v (.int .i64 0), .v (.string ByteArray.empty)]) := by kernel_rfl
@[go_sem] theorem Tryd.plainSrc189 : Go.Abs.plainSrc Tryd.prog 189 = false := by kernel_rfl
@[go_sem] theorem Tryd.fld189_0 : Go.Abs.fld Tryd.prog 189 0 = some (0, 1, false) := by kernel_rfl
@[go_sem] theorem Tryd.fld189_1 : Go.Abs.fld Tryd.prog 189 1 = some (1, 1, false) := by kernel_rfl
@[go_sem] theorem Tryd.fld189_2 : Go.Abs.fld Tryd.prog 189 2 = some (2, 1, false) := by kernel_rfl
@[go_sem] theorem Tryd.und190 : Go.Abs.und Tryd.prog 190 = .struct #[⟨ "Key", 9, 0, false, "", "", 0⟩, ⟨ "Stamp", 3, 1, false, "", "", 16⟩, ⟨ "Val", 9, 2, false, "", "", 24⟩] := by kernel_rfl
@[go_sem] theorem Tryd.siz190 : Go.Abs.siz Tryd.prog 190 = some 3 := by kernel_rfl
@[go_sem] theorem Tryd.byt190 : Go.Abs.byt Tryd.prog 190 = some 40 := by kernel_rfl
@[go_sem] theorem Tryd.azero190 : Go.Abs.aZero Tryd.prog 190 = some (3, .agg [.v (.string ByteArray.empty), .v (.int .i64 0), .v (.string ByteArray.empty)]) := by kernel_rfl
@[go_sem] theorem Tryd.zer190 : Go.Abs.zer Tryd.prog 190 = some (.agg [.v (.string ByteArray.empty), .v (.int .i64 0), .v (.string ByteArray.empty)]) := by kernel_rfl
@[go_sem] theorem Tryd.plainSrc190 : Go.Abs.plainSrc Tryd.prog 190 = false := by kernel_rfl
@[go_sem] theorem Tryd.fld190_0 : Go.Abs.fld Tryd.prog 190 0 = some (0, 1, false) := by kernel_rfl
@[go_sem] theorem Tryd.fld190_1 : Go.Abs.fld Tryd.prog 190 1 = some (1, 1, false) := by kernel_rfl
@[go_sem] theorem Tryd.fld190_2 : Go.Abs.fld Tryd.prog 190 2 = some (2, 1, false) := by kernel_rfl
@[go_sem] theorem Tryd.und194 : Go.Abs.und Tryd.prog 194 = .slice 198 := by kernel_rfl
@[go_sem] theorem Tryd.siz194 : Go.Abs.siz Tryd.prog 194 = some 1 := by kernel_rfl
@[go_sem] theorem Tryd.byt194 : Go.Abs.byt Tryd.prog 194 = some 24 := by kernel_rfl
@[go_sem] theorem Tryd.azero194 : Go.Abs.aZero Tryd.prog 194 = some (1, .v (.slice none 0 0)) := by kernel_rfl
@[go_sem] theorem Tryd.zer194 : Go.Abs.zer Tryd.prog 194 = some (.v (.slice none 0 0)) := by kernel_rfl
@[go_sem] theorem Tryd.plainSrc194 : Go.Abs.plainSrc Tryd.prog 194 = true := by kernel_rfl
@[go_sem] theorem Tryd.und203 : Go.Abs.und Tryd.prog 203 = .struct #[⟨ "rows", 115, 0, false, "", "skylark/table", 0⟩] := by kernel_rfl
@[go_sem] theorem Tryd.siz203 : Go.Abs.siz Tryd.prog 203 = some 1 := by kernel_rfl
@[go_sem] theorem Tryd.byt203 : Go.Abs.byt Tryd.prog 203 = some 24 := by kernel_rfl
@[go_sem] theorem Tryd.azero203 : Go.Abs.aZero Tryd.prog 203 = some (1, .agg [.v (.slice none 0 0)]) := by kernel_rfl
@[go_sem] theorem Tryd.zer203 : Go.Abs.zer Tryd.prog 203 = some (.agg [.v (.slice none 0 0)]) := by kernel_rfl
@[go_sem] theorem Tryd.plainSrc203 : Go.Abs.plainSrc Tryd.prog 203 = false := by kernel_rfl
@[go_sem] theorem Tryd.fld203_0 : Go.Abs.fld Tryd.prog 203 0 = some (0, 1, false) := by kernel_rfl
@[go_sem] theorem Tryd.und204 : Go.Abs.und Tryd.prog 204 = .struct #[⟨ "rows", 115, 0, false, "", "skylark/table", 0⟩] := by kernel_rfl
@[go_sem] theorem Tryd.siz204 : Go.Abs.siz Tryd.prog 204 = some 1 := by kernel_rfl
@[go_sem] theorem Tryd.byt204 : Go.Abs.byt Tryd.prog 204 = some 24 := by kernel_rfl
@[go_sem] theorem Tryd.azero204 : Go.Abs.aZero Tryd.prog 204 = some (1, .agg [.v (.slice none 0 0)]) := by kernel_rfl
@[go_sem] theorem Tryd.zer204 : Go.Abs.zer Tryd.prog 204 = some (.agg [.v (.slice none 0 0)]) := by kernel_rfl
@[go_sem] theorem Tryd.plainSrc204 : Go.Abs.plainSrc Tryd.prog 204 = false := by kernel_rfl
@[go_sem] theorem Tryd.fld204_0 : Go.Abs.fld Tryd.prog 204 0 = some (0, 1, false) := by kernel_rfl
@[go_sem] theorem Tryd.und212 : Go.Abs.und Tryd.prog 212 = .slice 25 := by kernel_rfl
@[go_sem] theorem Tryd.siz212 : Go.Abs.siz Tryd.prog 212 = some 1 := by kernel_rfl
@[go_sem] theorem Tryd.byt212 : Go.Abs.byt Tryd.prog 212 = some 24 := by kernel_rfl
@[go_sem] theorem Tryd.azero212 : Go.Abs.aZero Tryd.prog 212 = some (1, .v (.slice none 0 0)) := by kernel_rfl
@[go_sem] theorem Tryd.zer212 : Go.Abs.zer Tryd.prog 212 = some (.v (.slice none 0 0)) := by kernel_rfl
@[go_sem] theorem Tryd.plainSrc212 : Go.Abs.plainSrc Tryd.prog 212 = true := by kernel_rfl
@[go_sem] theorem Tryd.und218 : Go.Abs.und Tryd.prog 218 = .pointer 220 := by kernel_rfl
@[go_sem] theorem Tryd.siz218 : Go.Abs.siz Tryd.prog 218 = some 1 := by kernel_rfl
@[go_sem] theorem Tryd.byt218 : Go.Abs.byt Tryd.prog 218 = some 8 := by kernel_rfl
@[go_sem] theorem Tryd.azero218 : Go.Abs.aZero Tryd.prog 218 = some (1, .v (.pointer none)) := by kernel_rfl
@[go_sem] theorem Tryd.zer218 : Go.Abs.zer Tryd.prog 218 = some (.v (.pointer none)) := by kernel_rfl
@[go_sem] theorem Tryd.plainSrc218 : Go.Abs.plainSrc Tryd.prog 218 = false := by kernel_rfl
@[go_sem] theorem Tryd.und219 : Go.Abs.und Tryd.prog 219 = .struct #[⟨ "l", 183, 0, false, "", "skylark/op", 0⟩] := by kernel_rfl
@[go_sem] theorem Tryd.siz219 : Go.Abs.siz Tryd.prog 219 = some 1 := by kernel_rfl
@[go_sem] theorem Tryd.byt219 : Go.Abs.byt Tryd.prog 219 = some 24 := by kernel_rfl
@[go_sem] theorem Tryd.azero219 : Go.Abs.aZero Tryd.prog 219 = some (1, .agg [.v (.slice none 0 0)]) := by kernel_rfl
@[go_sem] theorem Tryd.zer219 : Go.Abs.zer Tryd.prog 219 = some (.agg [.v (.slice none 0 0)]) := by kernel_rfl
@[go_sem] theorem Tryd.plainSrc219 : Go.Abs.plainSrc Tryd.prog 219 = false := by kernel_rfl
@[go_sem] theorem Tryd.fld219_0 : Go.Abs.fld Tryd.prog 219 0 = some (0, 1, false) := by kernel_rfl
@[go_sem] theorem Tryd.und220 : Go.Abs.und Tryd.prog 220 = .struct #[⟨ "l", 183, 0, false, "", "skylark/op", 0⟩] := by kernel_rfl
@[go_sem] theorem Tryd.siz220 : Go.Abs.siz Tryd.prog 220 = some 1 := by kernel_rfl
@[go_sem] theorem Tryd.byt220 : Go.Abs.byt Tryd.prog 220 = some 24 := by kernel_rfl
@[go_sem] theorem Tryd.azero220 : Go.Abs.aZero Tryd.prog 220 = some (1, .agg [.v (.slice none 0 0)]) := by kernel_rfl
@[go_sem] theorem Tryd.zer220 : Go.Abs.zer Tryd.prog 220 = some (.agg [.v (.slice none 0 0)]) := by kernel_rfl
@[go_sem] theorem Tryd.plainSrc220 : Go.Abs.plainSrc Tryd.prog 220 = false := by kernel_rfl
@[go_sem] theorem Tryd.fld220_0 : Go.Abs.fld Tryd.prog 220 0 = some (0, 1, false) := by kernel_rfl
@[go_sem] theorem Tryd.und227 : Go.Abs.und Tryd.prog 227 = .slice 5 := by kernel_rfl
@[go_sem] theorem Tryd.siz227 : Go.Abs.siz Tryd.prog 227 = some 1 := by kernel_rfl
@[go_sem] theorem Tryd.byt227 : Go.Abs.byt Tryd.prog 227 = some 24 := by kernel_rfl
@[go_sem] theorem Tryd.azero227 : Go.Abs.aZero Tryd.prog 227 = some (1, .v (.slice none 0 0)) := by kernel_rfl
@[go_sem] theorem Tryd.zer227 : Go.Abs.zer Tryd.prog 227 = some (.v (.slice none 0 0)) := by kernel_rfl
@[go_sem] theorem Tryd.plainSrc227 : Go.Abs.plainSrc Tryd.prog 227 = true := by kernel_rfl
@[go_sem] theorem Tryd.und242 : Go.Abs.und Tryd.prog 242 = .int .u32 := by kernel_rfl
@[go_sem] theorem Tryd.siz242 : Go.Abs.siz Tryd.prog 242 = some 1 := by kernel_rfl
@[go_sem] theorem Tryd.byt242 : Go.Abs.byt Tryd.prog 242 = some 4 := by kernel_rfl
@[go_sem] theorem Tryd.azero242 : Go.Abs.aZero Tryd.prog 242 = some (1, .v (.int .u32 0)) := by kernel_rfl
@[go_sem] theorem Tryd.zer242 : Go.Abs.zer Tryd.prog 242 = some (.v (.int .u32 0)) := by kernel_rfl
@[go_sem] theorem Tryd.plainSrc242 : Go.Abs.plainSrc Tryd.prog 242 = false := by kernel_rfl
@[go_sem] theorem Tryd.und263 : Go.Abs.und Tryd.prog 263 = .struct #[⟨ "n", 35, 0, false, "", "skylark/code", 0⟩, ⟨ "many", 3, 1, false, "", "skylark/code", 8⟩] := by kernel_rfl
@[go_sem] theorem Tryd.siz263 : Go.Abs.siz Tryd.prog 263 = some 2 := by kernel_rfl
@[go_sem] theorem Tryd.byt263 : Go.Abs.byt Tryd.prog 263 = some 16 := by kernel_rfl
@[go_sem] theorem Tryd.azero263 : Go.Abs.aZero Tryd.prog 263 = some (2, .agg [.v (.int .u64 0), .v (.int .i64 0)]) := by kernel_rfl
@[go_sem] theorem Tryd.zer263 : Go.Abs.zer Tryd.prog 263 = some (.agg [.v (.int .u64 0), .v (.int .i64 0)]) := by kernel_rfl
@[go_sem] theorem Tryd.plainSrc263 : Go.Abs.plainSrc Tryd.prog 263 = false := by kernel_rfl
@[go_sem] theorem Tryd.fld263_0 : Go.Abs.fld Tryd.prog 263 0 = some (0, 1, false) := by kernel_rfl
@[go_sem] theorem Tryd.fld263_1 : Go.Abs.fld Tryd.prog 263 1 = some (1, 1, false) := by kernel_rfl
@[go_sem] theorem Tryd.und264 : Go.Abs.und Tryd.prog 264 = .struct #[⟨ "n", 35, 0, false, "", "skylark/code", 0⟩, ⟨ "many", 3, 1, false, "", "skylark/code", 8⟩] := by kernel_rfl
@[go_sem] theorem Tryd.siz264 : Go.Abs.siz Tryd.prog 264 = some 2 := by kernel_rfl
@[go_sem] theorem Tryd.byt264 : Go.Abs.byt Tryd.prog 264 = some 16 := by kernel_rfl
@[go_sem] theorem Tryd.azero264 : Go.Abs.aZero Tryd.prog 264 = some (2, .agg [.v (.int .u64 0), .v (.int .i64 0)]) := by kernel_rfl
@[go_sem] theorem Tryd.zer264 : Go.Abs.zer Tryd.prog 264 = some (.agg [.v (.int .u64 0), .v (.int .i64 0)]) := by kernel_rfl
@[go_sem] theorem Tryd.plainSrc264 : Go.Abs.plainSrc Tryd.prog 264 = false := by kernel_rfl
@[go_sem] theorem Tryd.fld264_0 : Go.Abs.fld Tryd.prog 264 0 = some (0, 1, false) := by kernel_rfl
@[go_sem] theorem Tryd.fld264_1 : Go.Abs.fld Tryd.prog 264 1 = some (1, 1, false) := by kernel_rfl
@[go_sem] theorem Tryd.und268 : Go.Abs.und Tryd.prog 268 = .array 24 5 := by kernel_rfl
@[go_sem] theorem Tryd.siz268 : Go.Abs.siz Tryd.prog 268 = some 24 := by kernel_rfl
@[go_sem] theorem Tryd.byt268 : Go.Abs.byt Tryd.prog 268 = some 24 := by kernel_rfl
@[go_sem] theorem Tryd.azero268 : Go.Abs.aZero Tryd.prog 268 = some (24, .agg [.v (.int .u8 0), .v (.int .u8 0), .v (.int .u8 0), .v (.int .u8 0), .v (.int .u8 0), .v (.int .u8 0), .v (.int .u8 0), .v (.int .u8 0), .v (.int .u8 0), .v (.int .u8 0), .v (.int .u8 0), .v (.int .u8 0), .v (.int .u8 0), .v (.int .u8 0), .v (.int .u8 0), .v (.int .u8 0), .v (.int .u8 0), .v (.int .u8 0), .v (.int .u8 0), .v (.int .u8 0), .v (.int .u8 0), .v (.int .u8 0), .v (.int .u8 0), .v (.int .u8 0)]) := by kernel_rfl
@[go_sem] theorem Tryd.zer268 : Go.Abs.zer Tryd.prog 268 = some (.agg [.v (.int .u8 0), .v (.int .u8 0), .v (.int .u8 0), .v (.int .u8 0), .v (.int .u8 0), .v (.int .u8 0), .v (.int .u8 0), .v (.int .u8 0), .v (.int .u8 0), .v (.int .u8 0), .v (.int .u8 0), .v (.int .u8 0), .v (.int .u8 0), .v (.int .u8 0), .v (.int .u8 0), .v (.int .u8 0), .v (.int .u8 0), .v (.int .u8 0), .v (.int .u8 0), .v (.int .u8 0), .v (.int .u8 0), .v (.int .u8 0), .v (.int .u8 0), .v (.int .u8 0)]) := by kernel_rfl
@[go_sem] theorem Tryd.plainSrc268 : Go.Abs.plainSrc Tryd.prog 268 = false := by kernel_rfl
@[go_sem] theorem Tryd.und274 : Go.Abs.und Tryd.prog 274 = .int .i64 := by kernel_rfl
@[go_sem] theorem Tryd.siz274 : Go.Abs.siz Tryd.prog 274 = some 1 := by kernel_rfl
@[go_sem] theorem Tryd.byt274 : Go.Abs.byt Tryd.prog 274 = some 8 := by kernel_rfl
@[go_sem] theorem Tryd.azero274 : Go.Abs.aZero Tryd.prog 274 = some (1, .v (.int .i64 0)) := by kernel_rfl
@[go_sem] theorem Tryd.zer274 : Go.Abs.zer Tryd.prog 274 = some (.v (.int .i64 0)) := by kernel_rfl
@[go_sem] theorem Tryd.plainSrc274 : Go.Abs.plainSrc Tryd.prog 274 = false := by kernel_rfl
@[go_sem] theorem Tryd.und283 : Go.Abs.und Tryd.prog 283 = .array 20 35 := by kernel_rfl
@[go_sem] theorem Tryd.siz283 : Go.Abs.siz Tryd.prog 283 = some 20 := by kernel_rfl
@[go_sem] theorem Tryd.byt283 : Go.Abs.byt Tryd.prog 283 = some 160 := by kernel_rfl
@[go_sem] theorem Tryd.azero283 : Go.Abs.aZero Tryd.prog 283 = some (20, .agg [.v (.int .u64 0), .v (.int .u64 0), .v (.int .u64 0), .v (.int .u64 0), .v (.int .u64 0), .v (.int .u64 0), .v (.int .u64 0), .v (.int .u64 0), .v (.int .u64 0), .v (.int .u64 0), .v (.int .u64 0), .v (.int .u64 0), .v (.int .u64 0), .v (.int .u64 0), .v (.int .u64 0), .v (.int .u64 0), .v (.int .u64 0), .v (.int .u64 0), .v (.int .u64 0), .v (.int .u64 0)]) := by kernel_rfl
@[go_sem] theorem Tryd.zer283 : Go.Abs.zer Tryd.prog 283 = some (.agg [.v (.int .u64 0), .v (.int .u64 0), .v (.int .u64 0), .v (.int .u64 0), .v (.int .u64 0), .v (.int .u64 0), .v (.int .u64 0), .v (.int .u64 0), .v (.int .u64 0), .v (.int .u64 0), .v (.int .u64 0), .v (.int .u64 0), .v (.int .u64 0), .v (.int .u64 0), .v (.int .u64 0), .v (.int .u64 0), .v (.int .u64 0), .v (.int .u64 0), .v (.int .u64 0), .v (.int .u64 0)]) := by kernel_rfl
@[go_sem] theorem Tryd.plainSrc283 : Go.Abs.plainSrc Tryd.prog 283 = false := by kernel_rfl
@[go_sem] theorem Tryd.und284 : Go.Abs.und Tryd.prog 284 = .array 65 5 := by kernel_rfl
@[go_sem] theorem Tryd.siz284 : Go.Abs.siz Tryd.prog 284 = some 65 := by kernel_rfl
@[go_sem] theorem Tryd.byt284 : Go.Abs.byt Tryd.prog 284 = some 65 := by kernel_rfl
@[go_sem] theorem Tryd.azero284 : Go.Abs.aZero Tryd.prog 284 = some (65, .agg [.v (.int .u8 0), .v (.int .u8 0), .v (.int .u8 0), .v (.int .u8 0), .v (.int .u8 0), .v (.int .u8 0), .v (.int .u8 0), .v (.int .u8 0), .v (.int .u8 0), .v (.int .u8 0), .v (.int .u8 0), .v (.int .u8 0), .v (.int .u8 0), .v (.int .u8 0), .v (.int .u8 0), .v (.int .u8 0), .v (.int .u8 0), .v (.int .u8 0), .v (.int .u8 0), .v (.int .u8 0), .v (.int .u8 0), .v (.int .u8 0), .v (.int .u8 0), .v (.int .u8 0), .v (.int .u8 0), .v (.int .u8 0), .v (.int .u8 0), .v (.int .u8 0), .v (.int .u8 0), .v (.int .u8 0), .v (.int .u8 0), .v (.int .u8 0), .v (.int .u8 0), .v (.int .u8 0), .v (.int .u8 0), .v (.int .u8 0), .v (.int .u8 0), .v (.int .u8 0), .v (.int .u8 0), .v (.int .u8 0), .v (.int .u8 0), .v (.int .u8 0), .v (.int .u8 0), .v (.int .u8 0), .v (.int .u8 0), .v (.int .u8 0), .v (.int .u8 0), .v (.int .u8 0), .v (.int .u8 0), .v (.int .u8 0), .v (.int .u8 0), .v (.int .u8 0), .v (.int .u8 0), .v (.int .u8 0), .v (.int .u8 0), .v (.int .u8 0), .v (.int .u8 0), .v (.int .u8 0), .v (.int .u8 0), .v (.int .u8 0), .v (.int .u8 0), .v (.int .u8 0), .v (.int .u8 0), .v (.int .u8 0), .v (.int .u8 0)]) := by kernel_rfl
@[go_sem] theorem Tryd.zer284 : Go.Abs.zer Tryd.prog 284 = some (.agg [.v (.int .u8 0), .v (.int .u8 0), .v (.int .u8 0), .v (.int .u8 0), .v (.int .u8 0), .v (.int .u8 0), .v (.int .u8 0), .v (.int .u8 0), .v (.int .u8 0), .v (.int .u8 0), .v (.int .u8 0), .v (.int .u8 0), .v (.int .u8 0), .v (.int .u8 0), .v (.int .u8 0), .v (.int .u8 0), .v (.int .u8 0), .v (.int .u8 0), .v (.int .u8 0), .v (.int .u8 0), .v (.int .u8 0), .v (.int .u8 0), .v (.int .u8 0), .v (.int .u8 0), .v (.int .u8 0), .v (.int .u8 0), .v (.int .u8 0), .v (.int .u8 0), .v (.int .u8 0), .v (.int .u8 0), .v (.int .u8 0), .v (.int .u8 0), .v (.int .u8 0), .v (.int .u8 0), .v (.int .u8 0), .v (.int .u8 0), .v (.int .u8 0), .v (.int .u8 0), .v (.int .u8 0), .v (.int .u8 0), .v (.int .u8 0), .v (.int .u8 0), .v (.int .u8 0), .v (.int .u8 0), .v (.int .u8 0), .v (.int .u8 0), .v (.int .u8 0), .v (.int .u8 0), .v (.int .u8 0), .v (.int .u8 0), .v (.int .u8 0), .v (.int .u8 0), .v (.int .u8 0), .v (.int .u8 0), .v (.int .u8 0), .v (.int .u8 0), .v (.int .u8 0), .v (.int .u8 0), .v (.int .u8 0), .v (.int .u8 0), .v (.int .u8 0), .v (.int .u8 0), .v (.int .u8 0), .v (.int .u8 0), .v (.int .u8 0)]) := by kernel_rfl
@[go_sem] theorem Tryd.plainSrc284 : Go.Abs.plainSrc Tryd.prog 284 = false := by kernel_rfl
@[go_sem] theorem Tryd.und285 : Go.Abs.und Tryd.prog 285 = .int .u64 := by kernel_rfl
@[go_sem] theorem Tryd.siz285 : Go.Abs.siz Tryd.prog 285 = some 1 := by kernel_rfl
@[go_sem] theorem Tryd.byt285 : Go.Abs.byt Tryd.prog 285 = some 8 := by kernel_rfl
@[go_sem] theorem Tryd.azero285 : Go.Abs.aZero Tryd.prog 285 = some (1, .v (.int .u64 0)) := by kernel_rfl
@[go_sem] theorem Tryd.zer285 : Go.Abs.zer Tryd.prog 285 = some (.v (.int .u64 0)) := by kernel_rfl
@[go_sem] theorem Tryd.plainSrc285 : Go.Abs.plainSrc Tryd.prog 285 = false := by kernel_rfl
@[go_sem] theorem Tryd.und289 : Go.Abs.und Tryd.prog 289 = .pointer 3 := by kernel_rfl
@[go_sem] theorem Tryd.siz289 : Go.Abs.siz Tryd.prog 289 = some 1 := by kernel_rfl
@[go_sem] theorem Tryd.byt289 : Go.Abs.byt Tryd.prog 289 = some 8 := by kernel_rfl
@[go_sem] theorem Tryd.azero289 : Go.Abs.aZero Tryd.prog 289 = some (1, .v (.pointer none)) := by kernel_rfl
@[go_sem] theorem Tryd.zer289 : Go.Abs.zer Tryd.prog 289 = some (.v (.pointer none)) := by kernel_rfl
@[go_sem] theorem Tryd.plainSrc289 : Go.Abs.plainSrc Tryd.prog 289 = false := by kernel_rfl
@[go_sem] theorem Tryd.und291 : Go.Abs.und Tryd.prog 291 = .pointer 285 := by kernel_rfl
@[go_sem] theorem Tryd.siz291 : Go.Abs.siz Tryd.prog 291 = some 1 := by kernel_rfl
@[go_sem] theorem Tryd.byt291 : Go.Abs.byt Tryd.prog 291 = some 8 := by kernel_rfl
@[go_sem] theorem Tryd.azero291 : Go.Abs.aZero Tryd.prog 291 = some (1, .v (.pointer none)) := by kernel_rfl
@[go_sem] theorem Tryd.zer291 : Go.Abs.zer Tryd.prog 291 = some (.v (.pointer none)) := by kernel_rfl
@[go_sem] theorem Tryd.plainSrc291 : Go.Abs.plainSrc Tryd.prog 291 = false := by kernel_rfl
@[go_sem] theorem Tryd.und293 : Go.Abs.und Tryd.prog 293 = .array 32 5 := by kernel_rfl
@[go_sem] theorem Tryd.siz293 : Go.Abs.siz Tryd.prog 293 = some 32 := by kernel_rfl
@[go_sem] theorem Tryd.byt293 : Go.Abs.byt Tryd.prog 293 = some 32 := by kernel_rfl
@[go_sem] theorem Tryd.azero293 : Go.Abs.aZero Tryd.prog 293 = some (32, .agg [.v (.int .u8 0), .v (.int .u8 0), .v (.int .u8 0), .v (.int .u8 0), .v (.int .u8 0), .v (.int .u8 0), .v (.int .u8 0), .v (.int .u8 0), .v (.int .u8 0), .v (.int .u8 0), .v (.int .u8 0), .v (.int .u8 0), .v (.int .u8 0), .v (.int .u8 0), .v (.int .u8 0), .v (.int .u8 0), .v (.int .u8 0), .v (.int .u8 0), .v (.int .u8 0), .v (.int .u8 0), .v (.int .u8 0), .v (.int .u8 0), .v (.int .u8 0), .v (.int .u8 0), .v (.int .u8 0), .v (.int .u8 0), .v (.int .u8 0), .v (.int .u8 0), .v (.int .u8 0), .v (.int .u8 0), .v (.int .u8 0), .v (.int .u8 0)]) := by kernel_rfl
@[go_sem] theorem Tryd.zer293 : Go.Abs.zer Tryd.prog 293 = some (.agg [.v (.int .u8 0), .v (.int .u8 0), .v (.int .u8 0), .v (.int .u8 0), .v (.int .u8 0), .v (.int .u8 0), .v (.int .u8 0), .v (.int .u8 0), .v (.int .u8 0), .v (.int .u8 0), .v (.int .u8 0), .v (.int .u8 0), .v (.int .u8 0), .v (.int .u8 0), .v (.int .u8 0), .v (.int .u8 0), .v (.int .u8 0), .v (.int .u8 0), .v (.int .u8 0), .v (.int .u8 0), .v (.int .u8 0), .v (.int .u8 0), .v (.int .u8 0), .v (.int .u8 0), .v (.int .u8 0), .v (.int .u8 0), .v (.int .u8 0), .v (.int .u8 0), .v (.int .u8 0), .v (.int .u8 0), .v (.int .u8 0), .v (.int .u8 0)]) := by kernel_rfl
@[go_sem] theorem Tryd.plainSrc293 : Go.Abs.plainSrc Tryd.prog 293 = false := by kernel_rfl
@[go_sem] theorem Tryd.und294 : Go.Abs.und Tryd.prog 294 = .array 64 5 := by kernel_rfl
@[go_sem] theorem Tryd.siz294 : Go.Abs.siz Tryd.prog 294 = some 64 := by kernel_rfl
@[go_sem] theorem Tryd.byt294 : Go.Abs.byt Tryd.prog 294 = some 64 := by kernel_rfl
@[go_sem] theorem Tryd.azero294 : Go.Abs.aZero Tryd.prog 294 = some (64, .agg [.v (.int .u8 0), .v (.int .u8 0), .v (.int .u8 0), .v (.int .u8 0), .v (.int .u8 0), .v (.int .u8 0), .v (.int .u8 0), .v (.int .u8 0), .v (.int .u8 0), .v (.int .u8 0), .v (.int .u8 0), .v (.int .u8 0), .v (.int .u8 0), .v (.int .u8 0), .v (.int .u8 0), .v (.int .u8 0), .v (.int .u8 0), .v (.int .u8 0), .v (.int .u8 0), .v (.int .u8 0), .v (.int .u8 0), .v (.int .u8 0), .v (.int .u8 0), .v (.int .u8 0), .v (.int .u8 0), .v (.int .u8 0), .v (.int .u8 0), .v (.int .u8 0), .v (.int .u8 0), .v (.int .u8 0), .v (.int .u8 0), .v (.int .u8 0), .v (.int .u8 0), .v (.int .u8 0), .v (.int .u8 0), .v (.int .u8 0), .v (.int .u8 0), .v (.int .u8 0), .v (.int .u8 0), .v (.int .u8 0), .v (.int .u8 0), .v (.int .u8 0), .v (.int .u8 0), .v (.int .u8 0), .v (.int .u8 0), .v (.int .u8 0), .v (.int .u8 0), .v (.int .u8 0), .v (.int .u8 0), .v (.int .u8 0), .v (.int .u8 0), .v (.int .u8 0), .v (.int .u8 0), .v (.int .u8 0), .v (.int .u8 0), .v (.int .u8 0), .v (.int .u8 0), .v (.int .u8 0), .v (.int .u8 0), .v (.int .u8 0), .v (.int .u8 0), .v (.int .u8 0), .v (.int .u8 0), .v (.int .u8 0)]) := by kernel_rfl
@[go_sem] theorem Tryd.zer294 : Go.Abs.zer Tryd.prog 294 = some (.agg [.v (.int .u8 0), .v (.int .u8 0), .v (.int .u8 0), .v (.int .u8 0), .v (.int .u8 0), .v (.int .u8 0), .v (.int .u8 0), .v (.int .u8 0), .v (.int .u8 0), .v (.int .u8 0), .v (.int .u8 0), .v (.int .u8 0), .v (.int .u8 0), .v (.int .u8 0), .v (.int .u8 0), .v (.int .u8 0), .v (.int .u8 0), .v (.int .u8 0), .v (.int .u8 0), .v (.int .u8 0), .v (.int .u8 0), .v (.int .u8 0), .v (.int .u8 0), .v (.int .u8 0), .v (.int .u8 0), .v (.int .u8 0), .v (.int .u8 0), .v (.int .u8 0), .v (.int .u8 0), .v (.int .u8 0), .v (.int .u8 0), .v (.int .u8 0), .v (.int .u8 0), .v (.int .u8 0), .v (.int .u8 0), .v (.int .u8 0), .v (.int .u8 0), .v (.int .u8 0), .v (.int .u8 0), .v (.int .u8 0), .v (.int .u8 0), .v (.int .u8 0), .v (.int .u8 0), .v (.int .u8 0), .v (.int .u8 0), .v (.int .u8 0), .v (.int .u8 0), .v (.int .u8 0), .v (.int .u8 0), .v (.int .u8 0), .v (.int .u8 0), .v (.int .u8 0), .v (.int .u8 0), .v (.int .u8 0), .v (.int .u8 0), .v (.int .u8 0), .v (.int .u8 0), .v (.int .u8 0), .v (.int .u8 0), .v (.int .u8 0), .v (.int .u8 0), .v (.int .u8 0), .v (.int .u8 0), .v (.int .u8 0)]) := by kernel_rfl
@[go_sem] theorem Tryd.plainSrc294 : Go.Abs.plainSrc Tryd.prog 294 = false := by kernel_rfl
@[go_sem] theorem Tryd.und296 : Go.Abs.und Tryd.prog 296 = .struct #[⟨ "_interface", 17, 0, false, "", "runtime", 0⟩, ⟨ "concrete", 17, 1, false, "", "runtime", 8⟩, ⟨ "asserted", 17, 2, false, "", "runtime", 16⟩, ⟨ "missingMethod", 9, 3, false, "", "runtime", 24⟩] := by kernel_rfl
@[go_sem] theorem Tryd.siz296 : Go.Abs.siz Tryd.prog 296 = some 4 := by kernel_rfl
@[go_sem] theorem Tryd.byt296 : Go.Abs.byt Tryd.prog 296 = some 40 := by kernel_rfl
@[go_sem] theorem Tryd.azero296 : Go.Abs.aZero Tryd.prog 296 = some (4, .agg [.v (.pointer none), .v (.pointer none), .v (.pointer none), .v (.string ByteArray.empty)]) := by kernel_rfl
@[go_sem] theorem Tryd.zer296 : Go.Abs.zer Tryd.prog 296 = some (.agg [.v (.pointer none), .v (.pointer none), .v (.pointer none), .v (.string ByteArray.empty)]) := by kernel_rfl
@[go_sem] theorem Tryd.plainSrc296 : Go.Abs.plainSrc Tryd.prog 296 = false := by kernel_rfl
@[go_sem] theorem Tryd.fld296_0 : Go.Abs.fld Tryd.prog 296 0 = some (0, 1, false) := by kernel_rfl
@[go_sem] theorem Tryd.fld296_1 : Go.Abs.fld Tryd.prog 296 1 = some (1, 1, false) := by kernel_rfl
@[go_sem] theorem Tryd.fld296_2 : Go.Abs.fld Tryd.prog 296 2 = some (2, 1, false) := by kernel_rfl
@[go_sem] theorem Tryd.fld296_3 : Go.Abs.fld Tryd.prog 296 3 = some (3, 1, false) := by kernel_rfl
@[go_sem] theorem Tryd.und297 : Go.Abs.und Tryd.prog 297 = .struct #[⟨ "_interface", 17, 0, false, "", "runtime", 0⟩, ⟨ "concrete", 17, 1, false, "", "runtime", 8⟩, ⟨ "asserted", 17, 2, false, "", "runtime", 16⟩, ⟨ "missingMethod", 9, 3, false, "", "runtime", 24⟩] := by kernel_rfl
@[go_sem] theorem Tryd.siz297 : Go.Abs.siz Tryd.prog 297 = some 4 := by kernel_rfl
@[go_sem] theorem Tryd.byt297 : Go.Abs.byt Tryd.prog 297 = some 40 := by kernel_rfl
@[go_sem] theorem Tryd.azero297 : Go.Abs.aZero Tryd.prog 297 = some (4, .agg [.v (.pointer none), .v (.pointer none), .v (.pointer none), .v (.string ByteArray.empty)]) := by kernel_rfl
@[go_sem] theorem Tryd.zer297 : Go.Abs.zer Tryd.prog 297 = some (.agg [.v (.pointer none), .v (.pointer none), .v (.pointer none), .v (.string ByteArray.empty)]) := by kernel_rfl
@[go_sem] theorem Tryd.plainSrc297 : Go.Abs.plainSrc Tryd.prog 297 = false := by kernel_rfl
@[go_sem] theorem Tryd.fld297_0 : Go.Abs.fld Tryd.prog 297 0 = some (0, 1, false) := by kernel_rfl
@[go_sem] theorem Tryd.fld297_1 : Go.Abs.fld Tryd.prog 297 1 = some (1, 1, false) := by kernel_rfl
@[go_sem] theorem Tryd.fld297_2 : Go.Abs.fld Tryd.prog 297 2 = some (2, 1, false) := by kernel_rfl
@[go_sem] theorem Tryd.fld297_3 : Go.Abs.fld Tryd.prog 297 3 = some (3, 1, false) := by kernel_rfl
@[go_sem] theorem Tryd.und298 : Go.Abs.und Tryd.prog 298 = .array 0 16 := by kernel_rfl
@[go_sem] theorem Tryd.siz298 : Go.Abs.siz Tryd.prog 298 = some 0 := by kernel_rfl
@[go_sem] theorem Tryd.byt298 : Go.Abs.byt Tryd.prog 298 = some 0 := by kernel_rfl
@[go_sem] theorem Tryd.azero298 : Go.Abs.aZero Tryd.prog 298 = some (0, .agg []) := by kernel_rfl
@[go_sem] theorem Tryd.zer298 : Go.Abs.zer Tryd.prog 298 = some (.agg []) := by kernel_rfl
@[go_sem] theorem Tryd.plainSrc298 : Go.Abs.plainSrc Tryd.prog 298 = false := by kernel_rfl
@[go_sem] theorem Tryd.und299 : Go.Abs.und Tryd.prog 299 = .struct #[⟨ "_", 298, 0, false, "", "runtime", 0⟩] := by kernel_rfl
@[go_sem] theorem Tryd.siz299 : Go.Abs.siz Tryd.prog 299 = some 0 := by kernel_rfl
@[go_sem] theorem Tryd.byt299 : Go.Abs.byt Tryd.prog 299 = some 0 := by kernel_rfl
@[go_sem] theorem Tryd.azero299 : Go.Abs.aZero Tryd.prog 299 = some (0, .agg []) := by kernel_rfl
@[go_sem] theorem Tryd.zer299 : Go.Abs.zer Tryd.prog 299 = some (.agg []) := by kernel_rfl
@[go_sem] theorem Tryd.plainSrc299 : Go.Abs.plainSrc Tryd.prog 299 = false := by kernel_rfl
@[go_sem] theorem Tryd.fld299_0 : Go.Abs.fld Tryd.prog 299 0 = some (0, 0, true) := by kernel_rfl
@[go_sem] theorem Tryd.und300 : Go.Abs.und Tryd.prog 300 = .struct #[⟨ "_", 298, 0, false, "", "runtime", 0⟩] := by kernel_rfl
@[go_sem] theorem Tryd.siz300 : Go.Abs.siz Tryd.prog 300 = some 0 := by kernel_rfl
@[go_sem] theorem Tryd.byt300 : Go.Abs.byt Tryd.prog 300 = some 0 := by kernel_rfl
@[go_sem] theorem Tryd.azero300 : Go.Abs.aZero Tryd.prog 300 = some (0, .agg []) := by kernel_rfl
@[go_sem] theorem Tryd.zer300 : Go.Abs.zer Tryd.prog 300 = some (.agg []) := by kernel_rfl
@[go_sem] theorem Tryd.plainSrc300 : Go.Abs.plainSrc Tryd.prog 300 = false := by kernel_rfl
@[go_sem] theorem Tryd.fld300_0 : Go.Abs.fld Tryd.prog 300 0 = some (0, 0, true) := by kernel_rfl
@[go_sem] theorem Tryd.und301 : Go.Abs.und Tryd.prog 301 = .int .u8 := by kernel_rfl
@[go_sem] theorem Tryd.siz301 : Go.Abs.siz Tryd.prog 301 = some 1 := by kernel_rfl
@[go_sem] theorem Tryd.byt301 : Go.Abs.byt Tryd.prog 301 = some 1 := by kernel_rfl
@[go_sem] theorem Tryd.azero301 : Go.Abs.aZero Tryd.prog 301 = some (1, .v (.int .u8 0)) := by kernel_rfl
@[go_sem] theorem Tryd.zer301 : Go.Abs.zer Tryd.prog 301 = some (.v (.int .u8 0)) := by kernel_rfl
@[go_sem] theorem Tryd.plainSrc301 : Go.Abs.plainSrc Tryd.prog 301 = false := by kernel_rfl
@[go_sem] theorem Tryd.und302 : Go.Abs.und Tryd.prog 302 = .int .u8 := by kernel_rfl
@[go_sem] theorem Tryd.siz302 : Go.Abs.siz Tryd.prog 302 = some 1 := by kernel_rfl
@[go_sem] theorem Tryd.byt302 : Go.Abs.byt Tryd.prog 302 = some 1 := by kernel_rfl
@[go_sem] theorem Tryd.azero302 : Go.Abs.aZero Tryd.prog 302 = some (1, .v (.int .u8 0)) := by kernel_rfl
@[go_sem] theorem Tryd.zer302 : Go.Abs.zer Tryd.prog 302 = some (.v (.int .u8 0)) := by kernel_rfl
@[go_sem] theorem Tryd.plainSrc302 : Go.Abs.plainSrc Tryd.prog 302 = false := by kernel_rfl
@[go_sem] theorem Tryd.und304 : Go.Abs.und Tryd.prog 304 = .pointer 5 := by kernel_rfl
@[go_sem] theorem Tryd.siz304 : Go.Abs.siz Tryd.prog 304 = some 1 := by kernel_rfl
@[go_sem] theorem Tryd.byt304 : Go.Abs.byt Tryd.prog 304 = some 8 := by kernel_rfl
@[go_sem] theorem Tryd.azero304 : Go.Abs.aZero Tryd.prog 304 = some (1, .v (.pointer none)) := by kernel_rfl
@[go_sem] theorem Tryd.zer304 : Go.Abs.zer Tryd.prog 304 = some (.v (.pointer none)) := by kernel_rfl
@[go_sem] theorem Tryd.plainSrc304 : Go.Abs.plainSrc Tryd.prog 304 = false := by kernel_rfl
@[go_sem] theorem Tryd.und305 : Go.Abs.und Tryd.prog 305 = .int .i32 := by kernel_rfl
@[go_sem] theorem Tryd.siz305 : Go.Abs.siz Tryd.prog 305 = some 1 := by kernel_rfl
@[go_sem] theorem Tryd.byt305 : Go.Abs.byt Tryd.prog 305 = some 4 := by kernel_rfl
@[go_sem] theorem Tryd.azero305 : Go.Abs.aZero Tryd.prog 305 = some (1, .v (.int .i32 0)) := by kernel_rfl
@[go_sem] theorem Tryd.zer305 : Go.Abs.zer Tryd.prog 305 = some (.v (.int .i32 0)) := by kernel_rfl
@[go_sem] theorem Tryd.plainSrc305 : Go.Abs.plainSrc Tryd.prog 305 = false := by kernel_rfl
@[go_sem] theorem Tryd.und306 : Go.Abs.und Tryd.prog 306 = .int .i32 := by kernel_rfl
@[go_sem] theorem Tryd.siz306 : Go.Abs.siz Tryd.prog 306 = some 1 := by kernel_rfl
@[go_sem] theorem Tryd.byt306 : Go.Abs.byt Tryd.prog 306 = some 4 := by kernel_rfl
@[go_sem] theorem Tryd.azero306 : Go.Abs.aZero Tryd.prog 306 = some (1, .v (.int .i32 0)) := by kernel_rfl
@[go_sem] theorem Tryd.zer306 : Go.Abs.zer Tryd.prog 306 = some (.v (.int .i32 0)) := by kernel_rfl
@[go_sem] theorem Tryd.plainSrc306 : Go.Abs.plainSrc Tryd.prog 306 = false := by kernel_rfl
@[go_sem] theorem Tryd.und307 : Go.Abs.und Tryd.prog 307 = .struct #[⟨ "Size_", 12, 0, false, "", "", 0⟩, ⟨ "PtrBytes", 12, 1, false, "", "", 8⟩, ⟨ "Hash", 242, 2, false, "", "", 16⟩, ⟨ "TFlag", 301, 3, false, "", "", 20⟩, ⟨ "Align_", 5, 4, false, "", "", 21⟩, ⟨ "FieldAlign_", 5, 5, false, "", "", 22⟩, ⟨ "Kind_", 302, 6, false, "", "", 23⟩, ⟨ "Equal", 303, 7, false, "", "", 24⟩, ⟨ "GCData", 304, 8, false, "", "", 32⟩, ⟨ "Str", 305, 9, false, "", "", 40⟩, ⟨ "PtrToThis", 306, 10, false, "", "", 44⟩] := by kernel_rfl
@[go_sem] theorem Tryd.siz307 : Go.Abs.siz Tryd.prog 307 = some 11 := by kernel_rfl
@[go_sem] theorem Tryd.byt307 : Go.Abs.byt Tryd.prog 307 = some 48 := by kernel_rfl
@[go_sem] theorem Tryd.azero307 : Go.Abs.aZero Tryd.prog 307 = some (11, .agg [.v (.int .u64 0), .v (.int .u64 0), .v (.int .u32 0), .v (.int .u8 0), .v (.int .u8 0), .v (.int .u8 0), .v (.int .u8 0), .v (.nilFunc), .v (.pointer none), .v (.int .i32 0), .v (.int .i32 0)]) := by kernel_rfl
@[go_sem] theorem Tryd.zer307 : Go.Abs.zer Tryd.prog 307 = some (.agg [.v (.int .u64 0), .v (.int .u64 0), .v (.int .u32 0), .v (.int .u8 0), .v (.int .u8 0), .v (.int .u8 0), .v (.int .u8 0), .v (.nilFunc), .v (.pointer none), .v (.int .i32 0), .v (.int .i32 0)]) := by kernel_rfl
@[go_sem] theorem Tryd.plainSrc307 : Go.Abs.plainSrc Tryd.prog 307 = false := by kernel_rfl
@[go_sem] theorem Tryd.fld307_0 : Go.Abs.fld Tryd.prog 307 0 = some (0, 1, false) := by kernel_rfl
@[go_sem] theorem Tryd.fld307_1 : Go.Abs.fld Tryd.prog 307 1 = some (1, 1, false) := by kernel_rfl
@[go_sem] theorem Tryd.fld307_2 : Go.Abs.fld Tryd.prog 307 2 = some (2, 1, false) := by kernel_rfl
@[go_sem] theorem Tryd.fld307_3 : Go.Abs.fld Tryd.prog 307 3 = some (3, 1, false) := by kernel_rfl
@[go_sem] theorem Tryd.fld307_4 : Go.Abs.fld Tryd.prog 307 4 = some (4, 1, false) := by kernel_rfl
@[go_sem] theorem Tryd.fld307_5 : Go.Abs.fld Tryd.prog 307 5 = some (5, 1, false) := by kernel_rfl
@[go_sem] theorem Tryd.fld307_6 : Go.Abs.fld Tryd.prog 307 6 = some (6, 1, false) := by kernel_rfl
@[go_sem] theorem Tryd.fld307_7 : Go.Abs.fld Tryd.prog 307 7 = some (7, 1, false) := by kernel_rfl
@[go_sem] theorem Tryd.fld307_8 : Go.Abs.fld Tryd.prog 307 8 = some (8, 1, false) := by kernel_rfl
@[go_sem] theorem Tryd.fld307_9 : Go.Abs.fld Tryd.prog 307 9 = some (9, 1, false) := by kernel_rfl
@[go_sem] theorem Tryd.fld307_10 : Go.Abs.fld Tryd.prog 307 10 = some (10, 1, false) := by kernel_rfl
@[go_sem] theorem Tryd.und308 : Go.Abs.und Tryd.prog 308 = .struct #[⟨ "Size_", 12, 0, false, "", "", 0⟩, ⟨ "PtrBytes", 12, 1, false, "", "", 8⟩, ⟨ "Hash", 242, 2, false, "", "", 16⟩, ⟨ "TFlag", 301, 3, false, "", "", 20⟩, ⟨ "Align_", 5, 4, false, "", "", 21⟩, ⟨ "FieldAlign_", 5, 5, false, "", "", 22⟩, ⟨ "Kind_", 302, 6, false, "", "", 23⟩, ⟨ "Equal", 303, 7, false, "", "", 24⟩, ⟨ "GCData", 304, 8, false, "", "", 32⟩, ⟨ "Str", 305, 9, false, "", "", 40⟩, ⟨ "PtrToThis", 306, 10, false, "", "", 44⟩] := by kernel_rfl
@[go_sem] theorem Tryd.siz308 : Go.Abs.siz Tryd.prog 308 = some 11 := by kernel_rfl
@[go_sem] theorem Tryd.byt308 : Go.Abs.byt Tryd.prog 308 = some 48 := by kernel_rfl
@[go_sem] theorem Tryd.azero308 : Go.Abs.aZero Tryd.prog 308 = some (11, .agg [.v (.int .u64 0), .v (.int .u64 0), .v (.int .u32 0), .v (.int .u8 0), .v (.int .u8 0), .v (.int .u8 0), .v (.int .u8 0), .v (.nilFunc), .v (.pointer none), .v (.int .i32 0), .v (.int .i32 0)]) := by kernel_rfl
@[go_sem] theorem Tryd.zer308 : Go.Abs.zer Tryd.prog 308 = some (.agg [.v (.int .u64 0), .v (.int .u64 0), .v (.int .u32 0), .v (.int .u8 0), .v (.int .u8 0), .v (.int .u8 0), .v (.int .u8 0), .v (.nilFunc), .v (.pointer none), .v (.int .i32 0), .v (.int .i32 0)]) := by kernel_rfl
@[go_sem] theorem Tryd.plainSrc308 : Go.Abs.plainSrc Tryd.prog 308 = false := by kernel_rfl
@[go_sem] theorem Tryd.fld308_0 : Go.Abs.fld Tryd.prog 308 0 = some (0, 1, false) := by kernel_rfl
@[go_sem] theorem Tryd.fld308_1 : Go.Abs.fld Tryd.prog 308 1 = some (1, 1, false) := by kernel_rfl
@[go_sem] theorem Tryd.fld308_2 : Go.Abs.fld Tryd.prog 308 2 = some (2, 1, false) := by kernel_rfl
@[go_sem] theorem Tryd.fld308_3 : Go.Abs.fld Tryd.prog 308 3 = some (3, 1, false) := by kernel_rfl
@[go_sem] theorem Tryd.fld308_4 : Go.Abs.fld Tryd.prog 308 4 = some (4, 1, false) := by kernel_rfl
@[go_sem] theorem Tryd.fld308_5 : Go.Abs.fld Tryd.prog 308 5 = some (5, 1, false) := by kernel_rfl
@[go_sem] theorem Tryd.fld308_6 : Go.Abs.fld Tryd.prog 308 6 = some (6, 1, false) := by kernel_rfl
@[go_sem] theorem Tryd.fld308_7 : Go.Abs.fld Tryd.prog 308 7 = some (7, 1, false) := by kernel_rfl
@[go_sem] theorem Tryd.fld308_8 : Go.Abs.fld Tryd.prog 308 8 = some (8, 1, false) := by kernel_rfl
@[go_sem] theorem Tryd.fld308_9 : Go.Abs.fld Tryd.prog 308 9 = some (9, 1, false) := by kernel_rfl
@[go_sem] theorem Tryd.fld308_10 : Go.Abs.fld Tryd.prog 308 10 = some (10, 1, false) := by kernel_rfl
@[go_sem] theorem Tryd.und309 : Go.Abs.und Tryd.prog 309 = .struct #[⟨ "Code", 25, 0, false, "", "", 0⟩, ⟨ "Stamp", 3, 1, false, "", "", 8⟩, ⟨ "Val", 9, 2, false, "", "", 16⟩, ⟨ "Rows", 115, 3, false, "", "", 32⟩] := by kernel_rfl
@[go_sem] theorem Tryd.siz309 : Go.Abs.siz Tryd.prog 309 = some 4 := by kernel_rfl
@[go_sem] theorem Tryd.byt309 : Go.Abs.byt Tryd.prog 309 = some 56 := by kernel_rfl
@[go_sem] theorem Tryd.azero309 : Go.Abs.aZero Tryd.prog 309 = some (4, .agg [.v (.int .i64 0), .v (.int .i64 0), .v (.string ByteArray.empty), .v (.slice none 0 0)]) := by kernel_rfl
@[go_sem] theorem Tryd.zer309 : Go.Abs.zer Tryd.prog 309 = some (.agg [.v (.int .i64 0), .v (.int .i64 0), .v (.string ByteArray.empty), .v (.slice none 0 0)]) := by kernel_rfl
@[go_sem] theorem Tryd.plainSrc309 : Go.Abs.plainSrc Tryd.prog 309 = false := by kernel_rfl
@[go_sem] theorem Tryd.fld309_0 : Go.Abs.fld Tryd.prog 309 0 = some (0, 1, false) := by kernel_rfl
@[go_sem] theorem Tryd.fld309_1 : Go.Abs.fld Tryd.prog 309 1 = some (1, 1, false) := by kernel_rfl
@[go_sem] theorem Tryd.fld309_2 : Go.Abs.fld Tryd.prog 309 2 = some (2, 1, false) := by kernel_rfl
@[go_sem] theorem Tryd.fld309_3 : Go.Abs.fld Tryd.prog 309 3 = some (3, 1, false) := by kernel_rfl
@[go_sem] theorem Tryd.und310 : Go.Abs.und Tryd.prog 310 = .struct #[⟨ "Code", 25, 0, false, "", "", 0⟩, ⟨ "Stamp", 3, 1, false, "", "", 8⟩, ⟨ "Val", 9, 2, false, "", "", 16⟩, ⟨ "Rows", 115, 3, false, "", "", 32⟩] := by kernel_rfl
@[go_sem] theorem Tryd.siz310 : Go.Abs.siz Tryd.prog 310 = some 4 := by kernel_rfl
@[go_sem] theorem Tryd.byt310 : Go.Abs.byt Tryd.prog 310 = some 56 := by kernel_rfl
@[go_sem] theorem Tryd.azero310 : Go.Abs.aZero Tryd.prog 310 = some (4, .agg [.v (.int .i64 0), .v (.int .i64 0), .v (.string ByteArray.empty), .v (.slice none 0 0)]) := by kernel_rfl
@[go_sem] theorem Tryd.zer310 : Go.Abs.zer Tryd.prog 310 = some (.agg [.v (.int .i64 0), .v (.int .i64 0), .v (.string ByteArray.empty), .v (.slice none 0 0)]) := by kernel_rfl
@[go_sem] theorem Tryd.plainSrc310 : Go.Abs.plainSrc Tryd.prog 310 = false := by kernel_rfl
@[go_sem] theorem Tryd.fld310_0 : Go.Abs.fld Tryd.prog 310 0 = some (0, 1, false) := by kernel_rfl
@[go_sem] theorem Tryd.fld310_1 : Go.Abs.fld Tryd.prog 310 1 = some (1, 1, false) := by kernel_rfl
@[go_sem] theorem Tryd.fld310_2 : Go.Abs.fld Tryd.prog 310 2 = some (2, 1, false) := by kernel_rfl
@[go_sem] theorem Tryd.fld310_3 : Go.Abs.fld Tryd.prog 310 3 = some (3, 1, false) := by kernel_rfl
@[go_sem] theorem Tryd.und312 : Go.Abs.und Tryd.prog 312 = .unsafePointer := by kernel_rfl
@[go_sem] theorem Tryd.siz312 : Go.Abs.siz Tryd.prog 312 = some 1 := by kernel_rfl
@[go_sem] theorem Tryd.byt312 : Go.Abs.byt Tryd.prog 312 = some 8 := by kernel_rfl
@[go_sem] theorem Tryd.azero312 : Go.Abs.aZero Tryd.prog 312 = some (1, .v (.pointer none)) := by kernel_rfl
@[go_sem] theorem Tryd.zer312 : Go.Abs.zer Tryd.prog 312 = some (.v (.pointer none)) := by kernel_rfl
@[go_sem] theorem Tryd.plainSrc312 : Go.Abs.plainSrc Tryd.prog 312 = false := by kernel_rfl
end Go.Proofs
