import Derived.Test.YtekaeegjohanjaaGreatDoorAbE
import Derived.Test.YtekaeegjohanjaaGreatDoorProg
set_option linter.all false
namespace Go.Proofs
@[go_sem] theorem Tryz.und2 : Go.Abs.und Tryz.prog 2 = .int .i64 := by kernel_rfl
@[go_sem] theorem Tryz.siz2 : Go.Abs.siz Tryz.prog 2 = some 1 := by kernel_rfl
@[go_sem] theorem Tryz.byt2 : Go.Abs.byt Tryz.prog 2 = some 8 := by kernel_rfl
@[go_sem] theorem Tryz.azero2 : Go.Abs.aZero Tryz.prog 2 = some (1, .v (.int .i64 0)) := by kernel_rfl
@[go_sem] theorem Tryz.zer2 : Go.Abs.zer Tryz.prog 2 = some (.v (.int .i64 0)) := by kernel_rfl
@[go_sem] theorem Tryz.plainSrc2 : Go.Abs.plainSrc Tryz.prog 2 = false := by kernel_rfl
@[go_sem] theorem Tryz.und3 : Go.Abs.und Tryz.prog 3 = .int .i64 := by kernel_rfl
@[go_sem] theorem Tryz.siz3 : Go.Abs.siz Tryz.prog 3 = some 1 := by kernel_rfl
@[go_sem] theorem Tryz.byt3 : Go.Abs.byt Tryz.prog 3 = some 8 := by kernel_rfl
@[go_sem] theorem Tryz.azero3 : Go.Abs.aZero Tryz.prog 3 = some (1, .v (.int .i64 0)) := by kernel_rfl
@[go_sem] theorem Tryz.zer3 : Go.Abs.zer Tryz.prog 3 = some (.v (.int .i64 0)) := by kernel_rfl
@[go_sem] theorem Tryz.plainSrc3 : Go.Abs.plainSrc Tryz.prog 3 = false := by kernel_rfl
@[go_sem] theorem Tryz.und4 : Go.Abs.und Tryz.prog 4 = .bool := by kernel_rfl
@[go_sem] theorem Tryz.siz4 : Go.Abs.siz Tryz.prog 4 = some 1 := by kernel_rfl
@[go_sem] theorem Tryz.byt4 : Go.Abs.byt Tryz.prog 4 = some 1 := by kernel_rfl
@[go_sem] theorem Tryz.azero4 : Go.Abs.aZero Tryz.prog 4 = some (1, .v (.bool false)) := by kernel_rfl
@[go_sem] theorem Tryz.zer4 : Go.Abs.zer Tryz.prog 4 = some (.v (.bool false)) := by kernel_rfl
@[go_sem] theorem Tryz.plainSrc4 : Go.Abs.plainSrc Tryz.prog 4 = false := by kernel_rfl
@[go_sem] theorem Tryz.und5 : Go.Abs.und Tryz.prog 5 = .int .u8 := by kernel_rfl
@[go_sem] theorem Tryz.siz5 : Go.Abs.siz Tryz.prog 5 = some 1 := by kernel_rfl
@[go_sem] theorem Tryz.byt5 : Go.Abs.byt Tryz.prog 5 = some 1 := by kernel_rfl
@[go_sem] theorem Tryz.azero5 : Go.Abs.aZero Tryz.prog 5 = some (1, .v (.int .u8 0)) := by kernel_rfl
@[go_sem] theorem Tryz.zer5 : Go.Abs.zer Tryz.prog 5 = some (.v (.int .u8 0)) := by kernel_rfl
@[go_sem] theorem Tryz.plainSrc5 : Go.Abs.plainSrc Tryz.prog 5 = false := by kernel_rfl
@[go_sem] theorem Tryz.und6 : Go.Abs.und Tryz.prog 6 = .int .u8 := by kernel_rfl
@[go_sem] theorem Tryz.siz6 : Go.Abs.siz Tryz.prog 6 = some 1 := by kernel_rfl
@[go_sem] theorem Tryz.byt6 : Go.Abs.byt Tryz.prog 6 = some 1 := by kernel_rfl
@[go_sem] theorem Tryz.azero6 : Go.Abs.aZero Tryz.prog 6 = some (1, .v (.int .u8 0)) := by kernel_rfl
@[go_sem] theorem Tryz.zer6 : Go.Abs.zer Tryz.prog 6 = some (.v (.int .u8 0)) := by kernel_rfl
@[go_sem] theorem Tryz.plainSrc6 : Go.Abs.plainSrc Tryz.prog 6 = false := by kernel_rfl
@[go_sem] theorem Tryz.und7 : Go.Abs.und Tryz.prog 7 = .struct #[⟨ "x", 2, 0, false, "", "runtime", 0⟩, ⟨ "y", 3, 1, false, "", "runtime", 8⟩, ⟨ "signed", 4, 2, false, "", "runtime", 16⟩, ⟨ "code", 6, 3, false, "", "runtime", 17⟩] := by kernel_rfl
@[go_sem] theorem Tryz.siz7 : Go.Abs.siz Tryz.prog 7 = some 4 := by kernel_rfl
@[go_sem] theorem Tryz.byt7 : Go.Abs.byt Tryz.prog 7 = some 24 := by kernel_rfl
@[go_sem] theorem Tryz.azero7 : Go.Abs.aZero Tryz.prog 7 = some (4, .agg [.v (.int .i64 0), .v (.int .i64 0), .v (.bool false), .v (.int .u8 0)]) := by kernel_rfl
@[go_sem] theorem Tryz.zer7 : Go.Abs.zer Tryz.prog 7 = some (.agg [.v (.int .i64 0), .v (.int .i64 0), .v (.bool false), .v (.int .u8 0)]) := by kernel_rfl
@[go_sem] theorem Tryz.plainSrc7 : Go.Abs.plainSrc Tryz.prog 7 = false := by kernel_rfl
@[go_sem] theorem Tryz.fld7_0 : Go.Abs.fld Tryz.prog 7 0 = some (0, 1, false) := by kernel_rfl
@[go_sem] theorem Tryz.fld7_1 : Go.Abs.fld Tryz.prog 7 1 = some (1, 1, false) := by kernel_rfl
@[go_sem] theorem Tryz.fld7_2 : Go.Abs.fld Tryz.prog 7 2 = some (2, 1, false) := by kernel_rfl
@[go_sem] theorem Tryz.fld7_3 : Go.Abs.fld Tryz.prog 7 3 = some (3, 1, false) := by kernel_rfl
@[go_sem] theorem Tryz.und8 : Go.Abs.und Tryz.prog 8 = .struct #[⟨ "x", 2, 0, false, "", "runtime", 0⟩, ⟨ "y", 3, 1, false, "", "runtime", 8⟩, ⟨ "signed", 4, 2, false, "", "runtime", 16⟩, ⟨ "code", 6, 3, false, "", "runtime", 17⟩] := by kernel_rfl
@[go_sem] theorem Tryz.siz8 : Go.Abs.siz Tryz.prog 8 = some 4 := by kernel_rfl
@[go_sem] theorem Tryz.byt8 : Go.Abs.byt Tryz.prog 8 = some 24 := by kernel_rfl
@[go_sem] theorem Tryz.azero8 : Go.Abs.aZero Tryz.prog 8 = some (4, .agg [.v (.int .i64 0), .v (.int .i64 0), .v (.bool false), .v (.int .u8 0)]) := by kernel_rfl
@[go_sem] theorem Tryz.zer8 : Go.Abs.zer Tryz.prog 8 = some (.agg [.v (.int .i64 0), .v (.int .i64 0), .v (.bool false), .v (.int .u8 0)]) := by kernel_rfl
@[go_sem] theorem Tryz.plainSrc8 : Go.Abs.plainSrc Tryz.prog 8 = false := by kernel_rfl
@[go_sem] theorem Tryz.fld8_0 : Go.Abs.fld Tryz.prog 8 0 = some (0, 1, false) := by kernel_rfl
@[go_sem] theorem Tryz.fld8_1 : Go.Abs.fld Tryz.prog 8 1 = some (1, 1, false) := by kernel_rfl
@[go_sem] theorem Tryz.fld8_2 : Go.Abs.fld Tryz.prog 8 2 = some (2, 1, false) := by kernel_rfl
@[go_sem] theorem Tryz.fld8_3 : Go.Abs.fld Tryz.prog 8 3 = some (3, 1, false) := by kernel_rfl
@[go_sem] theorem Tryz.und9 : Go.Abs.und Tryz.prog 9 = .string := by kernel_rfl
@[go_sem] theorem Tryz.siz9 : Go.Abs.siz Tryz.prog 9 = some 1 := by kernel_rfl
@[go_sem] theorem Tryz.byt9 : Go.Abs.byt Tryz.prog 9 = some 16 := by kernel_rfl
@[go_sem] theorem Tryz.azero9 : Go.Abs.aZero Tryz.prog 9 = some (1, .v (.string ByteArray.empty)) := by kernel_rfl
@[go_sem] theorem Tryz.zer9 : Go.Abs.zer Tryz.prog 9 = some (.v (.string ByteArray.empty)) := by kernel_rfl
@[go_sem] theorem Tryz.plainSrc9 : Go.Abs.plainSrc Tryz.prog 9 = true := by kernel_rfl
@[go_sem] theorem Tryz.und10 : Go.Abs.und Tryz.prog 10 = .string := by kernel_rfl
@[go_sem] theorem Tryz.siz10 : Go.Abs.siz Tryz.prog 10 = some 1 := by kernel_rfl
@[go_sem] theorem Tryz.byt10 : Go.Abs.byt Tryz.prog 10 = some 16 := by kernel_rfl
@[go_sem] theorem Tryz.azero10 : Go.Abs.aZero Tryz.prog 10 = some (1, .v (.string ByteArray.empty)) := by kernel_rfl
@[go_sem] theorem Tryz.zer10 : Go.Abs.zer Tryz.prog 10 = some (.v (.string ByteArray.empty)) := by kernel_rfl
@[go_sem] theorem Tryz.plainSrc10 : Go.Abs.plainSrc Tryz.prog 10 = true := by kernel_rfl
@[go_sem] theorem Tryz.und11 : Go.Abs.und Tryz.prog 11 = .string := by kernel_rfl
@[go_sem] theorem Tryz.siz11 : Go.Abs.siz Tryz.prog 11 = some 1 := by kernel_rfl
@[go_sem] theorem Tryz.byt11 : Go.Abs.byt Tryz.prog 11 = some 16 := by kernel_rfl
@[go_sem] theorem Tryz.azero11 : Go.Abs.aZero Tryz.prog 11 = some (1, .v (.string ByteArray.empty)) := by kernel_rfl
@[go_sem] theorem Tryz.zer11 : Go.Abs.zer Tryz.prog 11 = some (.v (.string ByteArray.empty)) := by kernel_rfl
@[go_sem] theorem Tryz.plainSrc11 : Go.Abs.plainSrc Tryz.prog 11 = true := by kernel_rfl
@[go_sem] theorem Tryz.und12 : Go.Abs.und Tryz.prog 12 = .int .u64 := by kernel_rfl
@[go_sem] theorem Tryz.siz12 : Go.Abs.siz Tryz.prog 12 = some 1 := by kernel_rfl
@[go_sem] theorem Tryz.byt12 : Go.Abs.byt Tryz.prog 12 = some 8 := by kernel_rfl
@[go_sem] theorem Tryz.azero12 : Go.Abs.aZero Tryz.prog 12 = some (1, .v (.int .u64 0)) := by kernel_rfl
@[go_sem] theorem Tryz.zer12 : Go.Abs.zer Tryz.prog 12 = some (.v (.int .u64 0)) := by kernel_rfl
@[go_sem] theorem Tryz.plainSrc12 : Go.Abs.plainSrc Tryz.prog 12 = false := by kernel_rfl
@[go_sem] theorem Tryz.und13 : Go.Abs.und Tryz.prog 13 = .struct #[⟨ "msg", 9, 0, false, "", "runtime", 0⟩, ⟨ "addr", 12, 1, false, "", "runtime", 16⟩] := by kernel_rfl
@[go_sem] theorem Tryz.siz13 : Go.Abs.siz Tryz.prog 13 = some 2 := by kernel_rfl
@[go_sem] theorem Tryz.byt13 : Go.Abs.byt Tryz.prog 13 = some 24 := by kernel_rfl
@[go_sem] theorem Tryz.azero13 : Go.Abs.aZero Tryz.prog 13 = some (2, .agg [.v (.string ByteArray.empty), .v (.int .u64 0)]) := by kernel_rfl
@[go_sem] theorem Tryz.zer13 : Go.Abs.zer Tryz.prog 13 = some (.agg [.v (.string ByteArray.empty), .v (.int .u64 0)]) := by kernel_rfl
@[go_sem] theorem Tryz.plainSrc13 : Go.Abs.plainSrc Tryz.prog 13 = false := by kernel_rfl
@[go_sem] theorem Tryz.fld13_0 : Go.Abs.fld Tryz.prog 13 0 = some (0, 1, false) := by kernel_rfl
@[go_sem] theorem Tryz.fld13_1 : Go.Abs.fld Tryz.prog 13 1 = some (1, 1, false) := by kernel_rfl
@[go_sem] theorem Tryz.und14 : Go.Abs.und Tryz.prog 14 = .struct #[⟨ "msg", 9, 0, false, "", "runtime", 0⟩, ⟨ "addr", 12, 1, false, "", "runtime", 16⟩] := by kernel_rfl
@[go_sem] theorem Tryz.siz14 : Go.Abs.siz Tryz.prog 14 = some 2 := by kernel_rfl
@[go_sem] theorem Tryz.byt14 : Go.Abs.byt Tryz.prog 14 = some 24 := by kernel_rfl
@[go_sem] theorem Tryz.azero14 : Go.Abs.aZero Tryz.prog 14 = some (2, .agg [.v (.string ByteArray.empty), .v (.int .u64 0)]) := by kernel_rfl
@[go_sem] theorem Tryz.zer14 : Go.Abs.zer Tryz.prog 14 = some (.agg [.v (.string ByteArray.empty), .v (.int .u64 0)]) := by kernel_rfl
@[go_sem] theorem Tryz.plainSrc14 : Go.Abs.plainSrc Tryz.prog 14 = false := by kernel_rfl
@[go_sem] theorem Tryz.fld14_0 : Go.Abs.fld Tryz.prog 14 0 = some (0, 1, false) := by kernel_rfl
@[go_sem] theorem Tryz.fld14_1 : Go.Abs.fld Tryz.prog 14 1 = some (1, 1, false) := by kernel_rfl
@[go_sem] theorem Tryz.und15 : Go.Abs.und Tryz.prog 15 = .pointer 275 := by kernel_rfl
@[go_sem] theorem Tryz.siz15 : Go.Abs.siz Tryz.prog 15 = some 1 := by kernel_rfl
@[go_sem] theorem Tryz.byt15 : Go.Abs.byt Tryz.prog 15 = some 8 := by kernel_rfl
@[go_sem] theorem Tryz.azero15 : Go.Abs.aZero Tryz.prog 15 = some (1, .v (.pointer none)) := by kernel_rfl
@[go_sem] theorem Tryz.zer15 : Go.Abs.zer Tryz.prog 15 = some (.v (.pointer none)) := by kernel_rfl
@[go_sem] theorem Tryz.plainSrc15 : Go.Abs.plainSrc Tryz.prog 15 = false := by kernel_rfl
@[go_sem] theorem Tryz.und16 : Go.Abs.und Tryz.prog 16 = .pointer 278 := by kernel_rfl
@[go_sem] theorem Tryz.siz16 : Go.Abs.siz Tryz.prog 16 = some 1 := by kernel_rfl
@[go_sem] theorem Tryz.byt16 : Go.Abs.byt Tryz.prog 16 = some 8 := by kernel_rfl
@[go_sem] theorem Tryz.azero16 : Go.Abs.aZero Tryz.prog 16 = some (1, .v (.pointer none)) := by kernel_rfl
@[go_sem] theorem Tryz.zer16 : Go.Abs.zer Tryz.prog 16 = some (.v (.pointer none)) := by kernel_rfl
@[go_sem] theorem Tryz.plainSrc16 : Go.Abs.plainSrc Tryz.prog 16 = false := by kernel_rfl
@[go_sem] theorem Tryz.und17 : Go.Abs.und Tryz.prog 17 = .pointer 286 := by kernel_rfl
@[go_sem] theorem Tryz.siz17 : Go.Abs.siz Tryz.prog 17 = some 1 := by kernel_rfl
@[go_sem] theorem Tryz.byt17 : Go.Abs.byt Tryz.prog 17 = some 8 := by kernel_rfl
@[go_sem] theorem Tryz.azero17 : Go.Abs.aZero Tryz.prog 17 = some (1, .v (.pointer none)) := by kernel_rfl
@[go_sem] theorem Tryz.zer17 : Go.Abs.zer Tryz.prog 17 = some (.v (.pointer none)) := by kernel_rfl
@[go_sem] theorem Tryz.plainSrc17 : Go.Abs.plainSrc Tryz.prog 17 = false := by kernel_rfl
@[go_sem] theorem Tryz.und18 : Go.Abs.und Tryz.prog 18 = .struct #[⟨ "typ", 17, 0, false, "", "internal/runtime/maps", 0⟩] := by kernel_rfl
@[go_sem] theorem Tryz.siz18 : Go.Abs.siz Tryz.prog 18 = some 1 := by kernel_rfl
@[go_sem] theorem Tryz.byt18 : Go.Abs.byt Tryz.prog 18 = some 8 := by kernel_rfl
@[go_sem] theorem Tryz.azero18 : Go.Abs.aZero Tryz.prog 18 = some (1, .agg [.v (.pointer none)]) := by kernel_rfl
@[go_sem] theorem Tryz.zer18 : Go.Abs.zer Tryz.prog 18 = some (.agg [.v (.pointer none)]) := by kernel_rfl
@[go_sem] theorem Tryz.plainSrc18 : Go.Abs.plainSrc Tryz.prog 18 = false := by kernel_rfl
@[go_sem] theorem Tryz.fld18_0 : Go.Abs.fld Tryz.prog 18 0 = some (0, 1, false) := by kernel_rfl
@[go_sem] theorem Tryz.und19 : Go.Abs.und Tryz.prog 19 = .struct #[⟨ "typ", 17, 0, false, "", "internal/runtime/maps", 0⟩] := by kernel_rfl
@[go_sem] theorem Tryz.siz19 : Go.Abs.siz Tryz.prog 19 = some 1 := by kernel_rfl
@[go_sem] theorem Tryz.byt19 : Go.Abs.byt Tryz.prog 19 = some 8 := by kernel_rfl
@[go_sem] theorem Tryz.azero19 : Go.Abs.aZero Tryz.prog 19 = some (1, .agg [.v (.pointer none)]) := by kernel_rfl
@[go_sem] theorem Tryz.zer19 : Go.Abs.zer Tryz.prog 19 = some (.agg [.v (.pointer none)]) := by kernel_rfl
@[go_sem] theorem Tryz.plainSrc19 : Go.Abs.plainSrc Tryz.prog 19 = false := by kernel_rfl
@[go_sem] theorem Tryz.fld19_0 : Go.Abs.fld Tryz.prog 19 0 = some (0, 1, false) := by kernel_rfl
@[go_sem] theorem Tryz.und21 : Go.Abs.und Tryz.prog 21 = .int .i32 := by kernel_rfl
@[go_sem] theorem Tryz.siz21 : Go.Abs.siz Tryz.prog 21 = some 1 := by kernel_rfl
@[go_sem] theorem Tryz.byt21 : Go.Abs.byt Tryz.prog 21 = some 4 := by kernel_rfl
@[go_sem] theorem Tryz.azero21 : Go.Abs.aZero Tryz.prog 21 = some (1, .v (.int .i32 0)) := by kernel_rfl
@[go_sem] theorem Tryz.zer21 : Go.Abs.zer Tryz.prog 21 = some (.v (.int .i32 0)) := by kernel_rfl
@[go_sem] theorem Tryz.plainSrc21 : Go.Abs.plainSrc Tryz.prog 21 = false := by kernel_rfl
@[go_sem] theorem Tryz.und22 : Go.Abs.und Tryz.prog 22 = .slice 33 := by kernel_rfl
@[go_sem] theorem Tryz.siz22 : Go.Abs.siz Tryz.prog 22 = some 1 := by kernel_rfl
@[go_sem] theorem Tryz.byt22 : Go.Abs.byt Tryz.prog 22 = some 24 := by kernel_rfl
@[go_sem] theorem Tryz.azero22 : Go.Abs.aZero Tryz.prog 22 = some (1, .v (.slice none 0 0)) := by kernel_rfl
@[go_sem] theorem Tryz.zer22 : Go.Abs.zer Tryz.prog 22 = some (.v (.slice none 0 0)) := by kernel_rfl
@[go_sem] theorem Tryz.plainSrc22 : Go.Abs.plainSrc Tryz.prog 22 = true := by kernel_rfl
@[go_sem] theorem Tryz.und23 : Go.Abs.und Tryz.prog 23 = .pointer 105 := by kernel_rfl
@[go_sem] theorem Tryz.siz23 : Go.Abs.siz Tryz.prog 23 = some 1 := by kernel_rfl
@[go_sem] theorem Tryz.byt23 : Go.Abs.byt Tryz.prog 23 = some 8 := by kernel_rfl
@[go_sem] theorem Tryz.azero23 : Go.Abs.aZero Tryz.prog 23 = some (1, .v (.pointer none)) := by kernel_rfl
@[go_sem] theorem Tryz.zer23 : Go.Abs.zer Tryz.prog 23 = some (.v (.pointer none)) := by kernel_rfl
@[go_sem] theorem Tryz.plainSrc23 : Go.Abs.plainSrc Tryz.prog 23 = false := by kernel_rfl
@[go_sem] theorem Tryz.und24 : Go.Abs.und Tryz.prog 24 = .int .i64 := by kernel_rfl
@[go_sem] theorem Tryz.siz24 : Go.Abs.siz Tryz.prog 24 = some 1 := by kernel_rfl
@[go_sem] theorem Tryz.byt24 : Go.Abs.byt Tryz.prog 24 = some 8 := by kernel_rfl
@[go_sem] theorem Tryz.azero24 : Go.Abs.aZero Tryz.prog 24 = some (1, .v (.int .i64 0)) := by kernel_rfl
@[go_sem] theorem Tryz.zer24 : Go.Abs.zer Tryz.prog 24 = some (.v (.int .i64 0)) := by kernel_rfl
@[go_sem] theorem Tryz.plainSrc24 : Go.Abs.plainSrc Tryz.prog 24 = false := by kernel_rfl
@[go_sem] theorem Tryz.und27 : Go.Abs.und Tryz.prog 27 = .pointer 108 := by kernel_rfl
@[go_sem] theorem Tryz.siz27 : Go.Abs.siz Tryz.prog 27 = some 1 := by kernel_rfl
@[go_sem] theorem Tryz.byt27 : Go.Abs.byt Tryz.prog 27 = some 8 := by kernel_rfl
@[go_sem] theorem Tryz.azero27 : Go.Abs.aZero Tryz.prog 27 = some (1, .v (.pointer none)) := by kernel_rfl
@[go_sem] theorem Tryz.zer27 : Go.Abs.zer Tryz.prog 27 = some (.v (.pointer none)) := by kernel_rfl
@[go_sem] theorem Tryz.plainSrc27 : Go.Abs.plainSrc Tryz.prog 27 = false := by kernel_rfl
@[go_sem] theorem Tryz.und31 : Go.Abs.und Tryz.prog 31 = .slice 3 := by kernel_rfl
@[go_sem] theorem Tryz.siz31 : Go.Abs.siz Tryz.prog 31 = some 1 := by kernel_rfl
@[go_sem] theorem Tryz.byt31 : Go.Abs.byt Tryz.prog 31 = some 24 := by kernel_rfl
@[go_sem] theorem Tryz.azero31 : Go.Abs.aZero Tryz.prog 31 = some (1, .v (.slice none 0 0)) := by kernel_rfl
@[go_sem] theorem Tryz.zer31 : Go.Abs.zer Tryz.prog 31 = some (.v (.slice none 0 0)) := by kernel_rfl
@[go_sem] theorem Tryz.plainSrc31 : Go.Abs.plainSrc Tryz.prog 31 = true := by kernel_rfl
@[go_sem] theorem Tryz.und32 : Go.Abs.und Tryz.prog 32 = .struct #[⟨ "Kind", 3, 0, false, "", "", 0⟩, ⟨ "Chain", 3, 1, false, "", "", 8⟩, ⟨ "Brick", 3, 2, false, "", "", 16⟩, ⟨ "Epoch", 3, 3, false, "", "", 24⟩, ⟨ "List", 31, 4, false, "", "", 32⟩, ⟨ "Cursor", 9, 5, false, "", "", 56⟩] := by kernel_rfl
@[go_sem] theorem Tryz.siz32 : Go.Abs.siz Tryz.prog 32 = some 6 := by kernel_rfl
@[go_sem] theorem Tryz.byt32 : Go.Abs.byt Tryz.prog 32 = some 72 := by kernel_rfl
@[go_sem] theorem Tryz.azero32 : Go.Abs.aZero Tryz.prog 32 = some (6, .agg [.v (.int .i64 0), .v (.int .i64 0), .v (.int .i64 0), .v (.int .i64 0), .v (.slice none 0 0), .v (.string ByteArray.empty)]) := by kernel_rfl
@[go_sem] theorem Tryz.zer32 : Go.Abs.zer Tryz.prog 32 = some (.agg [.v (.int .i64 0), .v (.int .i64 0), .v (.int .i64 0), .v (.int .i64 0), .v (.slice none 0 0), .v (.string ByteArray.empty)]) := by kernel_rfl
@[go_sem] theorem Tryz.plainSrc32 : Go.Abs.plainSrc Tryz.prog 32 = false := by kernel_rfl
@[go_sem] theorem Tryz.fld32_0 : Go.Abs.fld Tryz.prog 32 0 = some (0, 1, false) := by kernel_rfl
@[go_sem] theorem Tryz.fld32_1 : Go.Abs.fld Tryz.prog 32 1 = some (1, 1, false) := by kernel_rfl
@[go_sem] theorem Tryz.fld32_2 : Go.Abs.fld Tryz.prog 32 2 = some (2, 1, false) := by kernel_rfl
@[go_sem] theorem Tryz.fld32_3 : Go.Abs.fld Tryz.prog 32 3 = some (3, 1, false) := by kernel_rfl
@[go_sem] theorem Tryz.fld32_4 : Go.Abs.fld Tryz.prog 32 4 = some (4, 1, false) := by kernel_rfl
@[go_sem] theorem Tryz.fld32_5 : Go.Abs.fld Tryz.prog 32 5 = some (5, 1, false) := by kernel_rfl
@[go_sem] theorem Tryz.und33 : Go.Abs.und Tryz.prog 33 = .struct #[⟨ "Kind", 3, 0, false, "", "", 0⟩, ⟨ "Chain", 3, 1, false, "", "", 8⟩, ⟨ "Brick", 3, 2, false, "", "", 16⟩, ⟨ "Epoch", 3, 3, false, "", "", 24⟩, ⟨ "List", 31, 4, false, "", "", 32⟩, ⟨ "Cursor", 9, 5, false, "", "", 56⟩] := by kernel_rfl
@[go_sem] theorem Tryz.siz33 : Go.Abs.siz Tryz.prog 33 = some 6 := by kernel_rfl
@[go_sem] theorem Tryz.byt33 : Go.Abs.byt Tryz.prog 33 = some 72 := by kernel_rfl
@[go_sem] theorem Tryz.azero33 : Go.Abs.aZero Tryz.prog 33 = some (6, .agg [.v (.int .i64 0), .v (.int .i64 0), .v (.int .i64 0), .v (.int .i64 0), .v (.slice none 0 0), .v (.string ByteArray.empty)]) := by kernel_rfl
@[go_sem] theorem Tryz.zer33 : Go.Abs.zer Tryz.prog 33 = some (.agg [.v (.int .i64 0), .v (.int .i64 0), .v (.int .i64 0), .v (.int .i64 0), .v (.slice none 0 0), .v (.string ByteArray.empty)]) := by kernel_rfl
@[go_sem] theorem Tryz.plainSrc33 : Go.Abs.plainSrc Tryz.prog 33 = false := by kernel_rfl
@[go_sem] theorem Tryz.fld33_0 : Go.Abs.fld Tryz.prog 33 0 = some (0, 1, false) := by kernel_rfl
@[go_sem] theorem Tryz.fld33_1 : Go.Abs.fld Tryz.prog 33 1 = some (1, 1, false) := by kernel_rfl
@[go_sem] theorem Tryz.fld33_2 : Go.Abs.fld Tryz.prog 33 2 = some (2, 1, false) := by kernel_rfl
@[go_sem] theorem Tryz.fld33_3 : Go.Abs.fld Tryz.prog 33 3 = some (3, 1, false) := by kernel_rfl
@[go_sem] theorem Tryz.fld33_4 : Go.Abs.fld Tryz.prog 33 4 = some (4, 1, false) := by kernel_rfl
@[go_sem] theorem Tryz.fld33_5 : Go.Abs.fld Tryz.prog 33 5 = some (5, 1, false) := by kernel_rfl
@[go_sem] theorem Tryz.und42 : Go.Abs.und Tryz.prog 42 = .struct #[⟨ "Version", 3, 0, false, "", "", 0⟩, ⟨ "Weights", 31, 1, false, "", "", 8⟩] := by kernel_rfl
@[go_sem] theorem Tryz.siz42 : Go.Abs.siz Tryz.prog 42 = some 2 := by kernel_rfl
@[go_sem] theorem Tryz.byt42 : Go.Abs.byt Tryz.prog 42 = some 32 := by kernel_rfl
@[go_sem] theorem Tryz.azero42 : Go.Abs.aZero Tryz.prog 42 = some (2, .agg [.v (.int .i64 0), .v (.slice none 0 0)]) := by kernel_rfl
@[go_sem] theorem Tryz.zer42 : Go.Abs.zer Tryz.prog 42 = some (.agg [.v (.int .i64 0), .v (.slice none 0 0)]) := by kernel_rfl
@[go_sem] theorem Tryz.plainSrc42 : Go.Abs.plainSrc Tryz.prog 42 = false := by kernel_rfl
@[go_sem] theorem Tryz.fld42_0 : Go.Abs.fld Tryz.prog 42 0 = some (0, 1, false) := by kernel_rfl
@[go_sem] theorem Tryz.fld42_1 : Go.Abs.fld Tryz.prog 42 1 = some (1, 1, false) := by kernel_rfl
@[go_sem] theorem Tryz.und43 : Go.Abs.und Tryz.prog 43 = .struct #[⟨ "Version", 3, 0, false, "", "", 0⟩, ⟨ "Weights", 31, 1, false, "", "", 8⟩] := by kernel_rfl
@[go_sem] theorem Tryz.siz43 : Go.Abs.siz Tryz.prog 43 = some 2 := by kernel_rfl
@[go_sem] theorem Tryz.byt43 : Go.Abs.byt Tryz.prog 43 = some 32 := by kernel_rfl
@[go_sem] theorem Tryz.azero43 : Go.Abs.aZero Tryz.prog 43 = some (2, .agg [.v (.int .i64 0), .v (.slice none 0 0)]) := by kernel_rfl
@[go_sem] theorem Tryz.zer43 : Go.Abs.zer Tryz.prog 43 = some (.agg [.v (.int .i64 0), .v (.slice none 0 0)]) := by kernel_rfl
@[go_sem] theorem Tryz.plainSrc43 : Go.Abs.plainSrc Tryz.prog 43 = false := by kernel_rfl
@[go_sem] theorem Tryz.fld43_0 : Go.Abs.fld Tryz.prog 43 0 = some (0, 1, false) := by kernel_rfl
@[go_sem] theorem Tryz.fld43_1 : Go.Abs.fld Tryz.prog 43 1 = some (1, 1, false) := by kernel_rfl
@[go_sem] theorem Tryz.und44 : Go.Abs.und Tryz.prog 44 = .slice 47 := by kernel_rfl
@[go_sem] theorem Tryz.siz44 : Go.Abs.siz Tryz.prog 44 = some 1 := by kernel_rfl
@[go_sem] theorem Tryz.byt44 : Go.Abs.byt Tryz.prog 44 = some 24 := by kernel_rfl
@[go_sem] theorem Tryz.azero44 : Go.Abs.aZero Tryz.prog 44 = some (1, .v (.slice none 0 0)) := by kernel_rfl
@[go_sem] theorem Tryz.zer44 : Go.Abs.zer Tryz.prog 44 = some (.v (.slice none 0 0)) := by kernel_rfl
@[go_sem] theorem Tryz.plainSrc44 : Go.Abs.plainSrc Tryz.prog 44 = true := by kernel_rfl
@[go_sem] theorem Tryz.und45 : Go.Abs.und Tryz.prog 45 = .struct #[⟨ "Was", 43, 0, false, "", "", 0⟩, ⟨ "Will", 43, 2, false, "", "", 32⟩, ⟨ "Cursor", 9, 4, false, "", "", 64⟩, ⟨ "Done", 4, 5, false, "", "", 80⟩, ⟨ "Rows", 44, 6, false, "", "", 88⟩] := by kernel_rfl
@[go_sem] theorem Tryz.siz45 : Go.Abs.siz Tryz.prog 45 = some 7 := by kernel_rfl
@[go_sem] theorem Tryz.byt45 : Go.Abs.byt Tryz.prog 45 = some 112 := by kernel_rfl
@[go_sem] theorem Tryz.azero45 : Go.Abs.aZero Tryz.prog 45 = some (7, .agg [.v (.int .i64 0), .v (.slice none 0 0), .v (.int .i64 0), .v (.slice none 0 0), .v (.string ByteArray.empty), .v (.bool false), .v (.slice none 0 0)]) := by kernel_rfl
@[go_sem] theorem Tryz.zer45 : Go.Abs.zer Tryz.prog 45 = some (.agg [.v (.int .i64 0), .v (.slice none 0 0), .v (.int .i64 0), .v (.slice none 0 0), .v (.string ByteArray.empty), .v (.bool false), .v (.slice none 0 0)]) := by kernel_rfl
@[go_sem] theorem Tryz.plainSrc45 : Go.Abs.plainSrc Tryz.prog 45 = false := by kernel_rfl
@[go_sem] theorem Tryz.fld45_0 : Go.Abs.fld Tryz.prog 45 0 = some (0, 2, true) := by kernel_rfl
@[go_sem] theorem Tryz.fld45_1 : Go.Abs.fld Tryz.prog 45 1 = some (2, 2, true) := by kernel_rfl
@[go_sem] theorem Tryz.fld45_2 : Go.Abs.fld Tryz.prog 45 2 = some (4, 1, false) := by kernel_rfl
@[go_sem] theorem Tryz.fld45_3 : Go.Abs.fld Tryz.prog 45 3 = some (5, 1, false) := by kernel_rfl
@[go_sem] theorem Tryz.fld45_4 : Go.Abs.fld Tryz.prog 45 4 = some (6, 1, false) := by kernel_rfl
@[go_sem] theorem Tryz.und46 : Go.Abs.und Tryz.prog 46 = .struct #[⟨ "Was", 43, 0, false, "", "", 0⟩, ⟨ "Will", 43, 2, false, "", "", 32⟩, ⟨ "Cursor", 9, 4, false, "", "", 64⟩, ⟨ "Done", 4, 5, false, "", "", 80⟩, ⟨ "Rows", 44, 6, false, "", "", 88⟩] := by kernel_rfl
@[go_sem] theorem Tryz.siz46 : Go.Abs.siz Tryz.prog 46 = some 7 := by kernel_rfl
@[go_sem] theorem Tryz.byt46 : Go.Abs.byt Tryz.prog 46 = some 112 := by kernel_rfl
@[go_sem] theorem Tryz.azero46 : Go.Abs.aZero Tryz.prog 46 = some (7, .agg [.v (.int .i64 0), .v (.slice none 0 0), .v (.int .i64 0), .v (.slice none 0 0), .v (.string ByteArray.empty), .v (.bool false), .v (.slice none 0 0)]) := by kernel_rfl
@[go_sem] theorem Tryz.zer46 : Go.Abs.zer Tryz.prog 46 = some (.agg [.v (.int .i64 0), .v (.slice none 0 0), .v (.int .i64 0), .v (.slice none 0 0), .v (.string ByteArray.empty), .v (.bool false), .v (.slice none 0 0)]) := by kernel_rfl
@[go_sem] theorem Tryz.plainSrc46 : Go.Abs.plainSrc Tryz.prog 46 = false := by kernel_rfl
@[go_sem] theorem Tryz.fld46_0 : Go.Abs.fld Tryz.prog 46 0 = some (0, 2, true) := by kernel_rfl
@[go_sem] theorem Tryz.fld46_1 : Go.Abs.fld Tryz.prog 46 1 = some (2, 2, true) := by kernel_rfl
@[go_sem] theorem Tryz.fld46_2 : Go.Abs.fld Tryz.prog 46 2 = some (4, 1, false) := by kernel_rfl
@[go_sem] theorem Tryz.fld46_3 : Go.Abs.fld Tryz.prog 46 3 = some (5, 1, false) := by kernel_rfl
@[go_sem] theorem Tryz.fld46_4 : Go.Abs.fld Tryz.prog 46 4 = some (6, 1, false) := by kernel_rfl
@[go_sem] theorem Tryz.und47 : Go.Abs.und Tryz.prog 47 = .slice 131 := by kernel_rfl
@[go_sem] theorem Tryz.siz47 : Go.Abs.siz Tryz.prog 47 = some 1 := by kernel_rfl
@[go_sem] theorem Tryz.byt47 : Go.Abs.byt Tryz.prog 47 = some 24 := by kernel_rfl
@[go_sem] theorem Tryz.azero47 : Go.Abs.aZero Tryz.prog 47 = some (1, .v (.slice none 0 0)) := by kernel_rfl
@[go_sem] theorem Tryz.zer47 : Go.Abs.zer Tryz.prog 47 = some (.v (.slice none 0 0)) := by kernel_rfl
@[go_sem] theorem Tryz.plainSrc47 : Go.Abs.plainSrc Tryz.prog 47 = true := by kernel_rfl
@[go_sem] theorem Tryz.und48 : Go.Abs.und Tryz.prog 48 = .struct #[⟨ "Was", 43, 0, false, "", "", 0⟩, ⟨ "Will", 43, 2, false, "", "", 32⟩, ⟨ "Cursor", 9, 4, false, "", "", 64⟩, ⟨ "Done", 4, 5, false, "", "", 80⟩] := by kernel_rfl
@[go_sem] theorem Tryz.siz48 : Go.Abs.siz Tryz.prog 48 = some 6 := by kernel_rfl
@[go_sem] theorem Tryz.byt48 : Go.Abs.byt Tryz.prog 48 = some 88 := by kernel_rfl
@[go_sem] theorem Tryz.azero48 : Go.Abs.aZero Tryz.prog 48 = some (6, .agg [.v (.int .i64 0), .v (.slice none 0 0), .v (.int .i64 0), .v (.slice none 0 0), .v (.string ByteArray.empty), .v (.bool false)]) := by kernel_rfl
@[go_sem] theorem Tryz.zer48 : Go.Abs.zer Tryz.prog 48 = some (.agg [.v (.int .i64 0), .v (.slice none 0 0), .v (.int .i64 0), .v (.slice none 0 0), .v (.string ByteArray.empty), .v (.bool false)]) := by kernel_rfl
@[go_sem] theorem Tryz.plainSrc48 : Go.Abs.plainSrc Tryz.prog 48 = false := by kernel_rfl
@[go_sem] theorem Tryz.fld48_0 : Go.Abs.fld Tryz.prog 48 0 = some (0, 2, true) := by kernel_rfl
@[go_sem] theorem Tryz.fld48_1 : Go.Abs.fld Tryz.prog 48 1 = some (2, 2, true) := by kernel_rfl
@[go_sem] theorem Tryz.fld48_2 : Go.Abs.fld Tryz.prog 48 2 = some (4, 1, false) := by kernel_rfl
@[go_sem] theorem Tryz.fld48_3 : Go.Abs.fld Tryz.prog 48 3 = some (5, 1, false) := by kernel_rfl
@[go_sem] theorem Tryz.und49 : Go.Abs.und Tryz.prog 49 = .struct #[⟨ "Was", 43, 0, false, "", "", 0⟩, ⟨ "Will", 43, 2, false, "", "", 32⟩, ⟨ "Cursor", 9, 4, false, "", "", 64⟩, ⟨ "Done", 4, 5, false, "", "", 80⟩] := by kernel_rfl
@[go_sem] theorem Tryz.siz49 : Go.Abs.siz Tryz.prog 49 = some 6 := by kernel_rfl
@[go_sem] theorem Tryz.byt49 : Go.Abs.byt Tryz.prog 49 = some 88 := by kernel_rfl
@[go_sem] theorem Tryz.azero49 : Go.Abs.aZero Tryz.prog 49 = some (6, .agg [.v (.int .i64 0), .v (.slice none 0 0), .v (.int .i64 0), .v (.slice none 0 0), .v (.string ByteArray.empty), .v (.bool false)]) := by kernel_rfl
@[go_sem] theorem Tryz.zer49 : Go.Abs.zer Tryz.prog 49 = some (.agg [.v (.int .i64 0), .v (.slice none 0 0), .v (.int .i64 0), .v (.slice none 0 0), .v (.string ByteArray.empty), .v (.bool false)]) := by kernel_rfl
@[go_sem] theorem Tryz.plainSrc49 : Go.Abs.plainSrc Tryz.prog 49 = false := by kernel_rfl
@[go_sem] theorem Tryz.fld49_0 : Go.Abs.fld Tryz.prog 49 0 = some (0, 2, true) := by kernel_rfl
@[go_sem] theorem Tryz.fld49_1 : Go.Abs.fld Tryz.prog 49 1 = some (2, 2, true) := by kernel_rfl
@[go_sem] theorem Tryz.fld49_2 : Go.Abs.fld Tryz.prog 49 2 = some (4, 1, false) := by kernel_rfl
@[go_sem] theorem Tryz.fld49_3 : Go.Abs.fld Tryz.prog 49 3 = some (5, 1, false) := by kernel_rfl
@[go_sem] theorem Tryz.und51 : Go.Abs.und Tryz.prog 51 = .slice 87 := by kernel_rfl
@[go_sem] theorem Tryz.siz51 : Go.Abs.siz Tryz.prog 51 = some 1 := by kernel_rfl
@[go_sem] theorem Tryz.byt51 : Go.Abs.byt Tryz.prog 51 = some 24 := by kernel_rfl
@[go_sem] theorem Tryz.azero51 : Go.Abs.aZero Tryz.prog 51 = some (1, .v (.slice none 0 0)) := by kernel_rfl
@[go_sem] theorem Tryz.zer51 : Go.Abs.zer Tryz.prog 51 = some (.v (.slice none 0 0)) := by kernel_rfl
@[go_sem] theorem Tryz.plainSrc51 : Go.Abs.plainSrc Tryz.prog 51 = true := by kernel_rfl
@[go_sem] theorem Tryz.und60 : Go.Abs.und Tryz.prog 60 = .int .u64 := by kernel_rfl
@[go_sem] theorem Tryz.siz60 : Go.Abs.siz Tryz.prog 60 = some 1 := by kernel_rfl
@[go_sem] theorem Tryz.byt60 : Go.Abs.byt Tryz.prog 60 = some 8 := by kernel_rfl
@[go_sem] theorem Tryz.azero60 : Go.Abs.aZero Tryz.prog 60 = some (1, .v (.int .u64 0)) := by kernel_rfl
@[go_sem] theorem Tryz.zer60 : Go.Abs.zer Tryz.prog 60 = some (.v (.int .u64 0)) := by kernel_rfl
@[go_sem] theorem Tryz.plainSrc60 : Go.Abs.plainSrc Tryz.prog 60 = false := by kernel_rfl
@[go_sem] theorem Tryz.und64 : Go.Abs.und Tryz.prog 64 = .slice 74 := by kernel_rfl
@[go_sem] theorem Tryz.siz64 : Go.Abs.siz Tryz.prog 64 = some 1 := by kernel_rfl
@[go_sem] theorem Tryz.byt64 : Go.Abs.byt Tryz.prog 64 = some 24 := by kernel_rfl
@[go_sem] theorem Tryz.azero64 : Go.Abs.aZero Tryz.prog 64 = some (1, .v (.slice none 0 0)) := by kernel_rfl
@[go_sem] theorem Tryz.zer64 : Go.Abs.zer Tryz.prog 64 = some (.v (.slice none 0 0)) := by kernel_rfl
@[go_sem] theorem Tryz.plainSrc64 : Go.Abs.plainSrc Tryz.prog 64 = true := by kernel_rfl
@[go_sem] theorem Tryz.und65 : Go.Abs.und Tryz.prog 65 = .slice 147 := by kernel_rfl
@[go_sem] theorem Tryz.siz65 : Go.Abs.siz Tryz.prog 65 = some 1 := by kernel_rfl
@[go_sem] theorem Tryz.byt65 : Go.Abs.byt Tryz.prog 65 = some 24 := by kernel_rfl
@[go_sem] theorem Tryz.azero65 : Go.Abs.aZero Tryz.prog 65 = some (1, .v (.slice none 0 0)) := by kernel_rfl
@[go_sem] theorem Tryz.zer65 : Go.Abs.zer Tryz.prog 65 = some (.v (.slice none 0 0)) := by kernel_rfl
@[go_sem] theorem Tryz.plainSrc65 : Go.Abs.plainSrc Tryz.prog 65 = true := by kernel_rfl
@[go_sem] theorem Tryz.und68 : Go.Abs.und Tryz.prog 68 = .struct #[⟨ "Was", 43, 0, false, "", "", 0⟩, ⟨ "Will", 43, 2, false, "", "", 32⟩, ⟨ "Cursor", 9, 4, false, "", "", 64⟩, ⟨ "Done", 4, 5, false, "", "", 80⟩] := by kernel_rfl
@[go_sem] theorem Tryz.siz68 : Go.Abs.siz Tryz.prog 68 = some 6 := by kernel_rfl
@[go_sem] theorem Tryz.byt68 : Go.Abs.byt Tryz.prog 68 = some 88 := by kernel_rfl
@[go_sem] theorem Tryz.azero68 : Go.Abs.aZero Tryz.prog 68 = some (6, .agg [.v (.int .i64 0), .v (.slice none 0 0), .v (.int .i64 0), .v (.slice none 0 0), .v (.string ByteArray.empty), .v (.bool false)]) := by kernel_rfl
@[go_sem] theorem Tryz.zer68 : Go.Abs.zer Tryz.prog 68 = some (.agg [.v (.int .i64 0), .v (.slice none 0 0), .v (.int .i64 0), .v (.slice none 0 0), .v (.string ByteArray.empty), .v (.bool false)]) := by kernel_rfl
@[go_sem] theorem Tryz.plainSrc68 : Go.Abs.plainSrc Tryz.prog 68 = false := by kernel_rfl
@[go_sem] theorem Tryz.fld68_0 : Go.Abs.fld Tryz.prog 68 0 = some (0, 2, true) := by kernel_rfl
@[go_sem] theorem Tryz.fld68_1 : Go.Abs.fld Tryz.prog 68 1 = some (2, 2, true) := by kernel_rfl
@[go_sem] theorem Tryz.fld68_2 : Go.Abs.fld Tryz.prog 68 2 = some (4, 1, false) := by kernel_rfl
@[go_sem] theorem Tryz.fld68_3 : Go.Abs.fld Tryz.prog 68 3 = some (5, 1, false) := by kernel_rfl
@[go_sem] theorem Tryz.und72 : Go.Abs.und Tryz.prog 72 = .slice 89 := by kernel_rfl
@[go_sem] theorem Tryz.siz72 : Go.Abs.siz Tryz.prog 72 = some 1 := by kernel_rfl
@[go_sem] theorem Tryz.byt72 : Go.Abs.byt Tryz.prog 72 = some 24 := by kernel_rfl
@[go_sem] theorem Tryz.azero72 : Go.Abs.aZero Tryz.prog 72 = some (1, .v (.slice none 0 0)) := by kernel_rfl
@[go_sem] theorem Tryz.zer72 : Go.Abs.zer Tryz.prog 72 = some (.v (.slice none 0 0)) := by kernel_rfl
@[go_sem] theorem Tryz.plainSrc72 : Go.Abs.plainSrc Tryz.prog 72 = true := by kernel_rfl
@[go_sem] theorem Tryz.und73 : Go.Abs.und Tryz.prog 73 = .struct #[⟨ "N", 3, 0, false, "", "", 0⟩, ⟨ "Ops", 72, 1, false, "", "", 8⟩] := by kernel_rfl
@[go_sem] theorem Tryz.siz73 : Go.Abs.siz Tryz.prog 73 = some 2 := by kernel_rfl
@[go_sem] theorem Tryz.byt73 : Go.Abs.byt Tryz.prog 73 = some 32 := by kernel_rfl
@[go_sem] theorem Tryz.azero73 : Go.Abs.aZero Tryz.prog 73 = some (2, .agg [.v (.int .i64 0), .v (.slice none 0 0)]) := by kernel_rfl
@[go_sem] theorem Tryz.zer73 : Go.Abs.zer Tryz.prog 73 = some (.agg [.v (.int .i64 0), .v (.slice none 0 0)]) := by kernel_rfl
@[go_sem] theorem Tryz.plainSrc73 : Go.Abs.plainSrc Tryz.prog 73 = false := by kernel_rfl
@[go_sem] theorem Tryz.fld73_0 : Go.Abs.fld Tryz.prog 73 0 = some (0, 1, false) := by kernel_rfl
@[go_sem] theorem Tryz.fld73_1 : Go.Abs.fld Tryz.prog 73 1 = some (1, 1, false) := by kernel_rfl
@[go_sem] theorem Tryz.und74 : Go.Abs.und Tryz.prog 74 = .struct #[⟨ "N", 3, 0, false, "", "", 0⟩, ⟨ "Ops", 72, 1, false, "", "", 8⟩] := by kernel_rfl
@[go_sem] theorem Tryz.siz74 : Go.Abs.siz Tryz.prog 74 = some 2 := by kernel_rfl
@[go_sem] theorem Tryz.byt74 : Go.Abs.byt Tryz.prog 74 = some 32 := by kernel_rfl
@[go_sem] theorem Tryz.azero74 : Go.Abs.aZero Tryz.prog 74 = some (2, .agg [.v (.int .i64 0), .v (.slice none 0 0)]) := by kernel_rfl
@[go_sem] theorem Tryz.zer74 : Go.Abs.zer Tryz.prog 74 = some (.agg [.v (.int .i64 0), .v (.slice none 0 0)]) := by kernel_rfl
@[go_sem] theorem Tryz.plainSrc74 : Go.Abs.plainSrc Tryz.prog 74 = false := by kernel_rfl
@[go_sem] theorem Tryz.fld74_0 : Go.Abs.fld Tryz.prog 74 0 = some (0, 1, false) := by kernel_rfl
@[go_sem] theorem Tryz.fld74_1 : Go.Abs.fld Tryz.prog 74 1 = some (1, 1, false) := by kernel_rfl
@[go_sem] theorem Tryz.und78 : Go.Abs.und Tryz.prog 78 = .slice 157 := by kernel_rfl
@[go_sem] theorem Tryz.siz78 : Go.Abs.siz Tryz.prog 78 = some 1 := by kernel_rfl
@[go_sem] theorem Tryz.byt78 : Go.Abs.byt Tryz.prog 78 = some 24 := by kernel_rfl
@[go_sem] theorem Tryz.azero78 : Go.Abs.aZero Tryz.prog 78 = some (1, .v (.slice none 0 0)) := by kernel_rfl
@[go_sem] theorem Tryz.zer78 : Go.Abs.zer Tryz.prog 78 = some (.v (.slice none 0 0)) := by kernel_rfl
@[go_sem] theorem Tryz.plainSrc78 : Go.Abs.plainSrc Tryz.prog 78 = true := by kernel_rfl
@[go_sem] theorem Tryz.und79 : Go.Abs.und Tryz.prog 79 = .struct #[⟨ "At", 3, 0, false, "", "", 0⟩, ⟨ "Code", 24, 1, false, "", "", 8⟩] := by kernel_rfl
@[go_sem] theorem Tryz.siz79 : Go.Abs.siz Tryz.prog 79 = some 2 := by kernel_rfl
@[go_sem] theorem Tryz.byt79 : Go.Abs.byt Tryz.prog 79 = some 16 := by kernel_rfl
@[go_sem] theorem Tryz.azero79 : Go.Abs.aZero Tryz.prog 79 = some (2, .agg [.v (.int .i64 0), .v (.int .i64 0)]) := by kernel_rfl
@[go_sem] theorem Tryz.zer79 : Go.Abs.zer Tryz.prog 79 = some (.agg [.v (.int .i64 0), .v (.int .i64 0)]) := by kernel_rfl
@[go_sem] theorem Tryz.plainSrc79 : Go.Abs.plainSrc Tryz.prog 79 = false := by kernel_rfl
@[go_sem] theorem Tryz.fld79_0 : Go.Abs.fld Tryz.prog 79 0 = some (0, 1, false) := by kernel_rfl
@[go_sem] theorem Tryz.fld79_1 : Go.Abs.fld Tryz.prog 79 1 = some (1, 1, false) := by kernel_rfl
@[go_sem] theorem Tryz.und80 : Go.Abs.und Tryz.prog 80 = .struct #[⟨ "At", 3, 0, false, "", "", 0⟩, ⟨ "Code", 24, 1, false, "", "", 8⟩] := by kernel_rfl
@[go_sem] theorem Tryz.siz80 : Go.Abs.siz Tryz.prog 80 = some 2 := by kernel_rfl
@[go_sem] theorem Tryz.byt80 : Go.Abs.byt Tryz.prog 80 = some 16 := by kernel_rfl
@[go_sem] theorem Tryz.azero80 : Go.Abs.aZero Tryz.prog 80 = some (2, .agg [.v (.int .i64 0), .v (.int .i64 0)]) := by kernel_rfl
@[go_sem] theorem Tryz.zer80 : Go.Abs.zer Tryz.prog 80 = some (.agg [.v (.int .i64 0), .v (.int .i64 0)]) := by kernel_rfl
@[go_sem] theorem Tryz.plainSrc80 : Go.Abs.plainSrc Tryz.prog 80 = false := by kernel_rfl
@[go_sem] theorem Tryz.fld80_0 : Go.Abs.fld Tryz.prog 80 0 = some (0, 1, false) := by kernel_rfl
@[go_sem] theorem Tryz.fld80_1 : Go.Abs.fld Tryz.prog 80 1 = some (1, 1, false) := by kernel_rfl
@[go_sem] theorem Tryz.und87 : Go.Abs.und Tryz.prog 87 = .pointer 160 := by kernel_rfl
@[go_sem] theorem Tryz.siz87 : Go.Abs.siz Tryz.prog 87 = some 1 := by kernel_rfl
@[go_sem] theorem Tryz.byt87 : Go.Abs.byt Tryz.prog 87 = some 8 := by kernel_rfl
@[go_sem] theorem Tryz.azero87 : Go.Abs.aZero Tryz.prog 87 = some (1, .v (.pointer none)) := by kernel_rfl
@[go_sem] theorem Tryz.zer87 : Go.Abs.zer Tryz.prog 87 = some (.v (.pointer none)) := by kernel_rfl
@[go_sem] theorem Tryz.plainSrc87 : Go.Abs.plainSrc Tryz.prog 87 = false := by kernel_rfl
@[go_sem] theorem Tryz.und88 : Go.Abs.und Tryz.prog 88 = .struct #[⟨ "Kind", 3, 0, false, "", "", 0⟩, ⟨ "Key", 9, 1, false, "", "", 8⟩, ⟨ "Val", 9, 2, false, "", "", 24⟩, ⟨ "Stamp", 3, 3, false, "", "", 40⟩, ⟨ "Test", 3, 4, false, "", "", 48⟩, ⟨ "Most", 3, 5, false, "", "", 56⟩] := by kernel_rfl
@[go_sem] theorem Tryz.siz88 : Go.Abs.siz Tryz.prog 88 = some 6 := by kernel_rfl
@[go_sem] theorem Tryz.byt88 : Go.Abs.byt Tryz.prog 88 = some 64 := by kernel_rfl
@[go_sem] theorem Tryz.azero88 : Go.Abs.aZero Tryz.prog 88 = some (6, .agg [.v (.int .i64 0), .v (.string ByteArray.empty), .v (.string ByteArray.empty), .v (.int .i64 0), .v (.int .i64 0), .v (.int .i64 0)]) := by kernel_rfl
@[go_sem] theorem Tryz.zer88 : Go.Abs.zer Tryz.prog 88 = some (.agg [.v (.int .i64 0), .v (.string ByteArray.empty), .v (.string ByteArray.empty), .v (.int .i64 0), .v (.int .i64 0), .v (.int .i64 0)]) := by kernel_rfl
@[go_sem] theorem Tryz.plainSrc88 : Go.Abs.plainSrc Tryz.prog 88 = false := by kernel_rfl
@[go_sem] theorem Tryz.fld88_0 : Go.Abs.fld Tryz.prog 88 0 = some (0, 1, false) := by kernel_rfl
@[go_sem] theorem Tryz.fld88_1 : Go.Abs.fld Tryz.prog 88 1 = some (1, 1, false) := by kernel_rfl
@[go_sem] theorem Tryz.fld88_2 : Go.Abs.fld Tryz.prog 88 2 = some (2, 1, false) := by kernel_rfl
@[go_sem] theorem Tryz.fld88_3 : Go.Abs.fld Tryz.prog 88 3 = some (3, 1, false) := by kernel_rfl
@[go_sem] theorem Tryz.fld88_4 : Go.Abs.fld Tryz.prog 88 4 = some (4, 1, false) := by kernel_rfl
@[go_sem] theorem Tryz.fld88_5 : Go.Abs.fld Tryz.prog 88 5 = some (5, 1, false) := by kernel_rfl
@[go_sem] theorem Tryz.und89 : Go.Abs.und Tryz.prog 89 = .struct #[⟨ "Kind", 3, 0, false, "", "", 0⟩, ⟨ "Key", 9, 1, false, "", "", 8⟩, ⟨ "Val", 9, 2, false, "", "", 24⟩, ⟨ "Stamp", 3, 3, false, "", "", 40⟩, ⟨ "Test", 3, 4, false, "", "", 48⟩, ⟨ "Most", 3, 5, false, "", "", 56⟩] := by kernel_rfl
@[go_sem] theorem Tryz.siz89 : Go.Abs.siz Tryz.prog 89 = some 6 := by kernel_rfl
@[go_sem] theorem Tryz.byt89 : Go.Abs.byt Tryz.prog 89 = some 64 := by kernel_rfl
@[go_sem] theorem Tryz.azero89 : Go.Abs.aZero Tryz.prog 89 = some (6, .agg [.v (.int .i64 0), .v (.string ByteArray.empty), .v (.string ByteArray.empty), .v (.int .i64 0), .v (.int .i64 0), .v (.int .i64 0)]) := by kernel_rfl
@[go_sem] theorem Tryz.zer89 : Go.Abs.zer Tryz.prog 89 = some (.agg [.v (.int .i64 0), .v (.string ByteArray.empty), .v (.string ByteArray.empty), .v (.int .i64 0), .v (.int .i64 0), .v (.int .i64 0)]) := by kernel_rfl
@[go_sem] theorem Tryz.plainSrc89 : Go.Abs.plainSrc Tryz.prog 89 = false := by kernel_rfl
@[go_sem] theorem Tryz.fld89_0 : Go.Abs.fld Tryz.prog 89 0 = some (0, 1, false) := by kernel_rfl
@[go_sem] theorem Tryz.fld89_1 : Go.Abs.fld Tryz.prog 89 1 = some (1, 1, false) := by kernel_rfl
@[go_sem] theorem Tryz.fld89_2 : Go.Abs.fld Tryz.prog 89 2 = some (2, 1, false) := by kernel_rfl
@[go_sem] theorem Tryz.fld89_3 : Go.Abs.fld Tryz.prog 89 3 = some (3, 1, false) := by kernel_rfl
@[go_sem] theorem Tryz.fld89_4 : Go.Abs.fld Tryz.prog 89 4 = some (4, 1, false) := by kernel_rfl
@[go_sem] theorem Tryz.fld89_5 : Go.Abs.fld Tryz.prog 89 5 = some (5, 1, false) := by kernel_rfl
@[go_sem] theorem Tryz.und95 : Go.Abs.und Tryz.prog 95 = .struct #[⟨ "From", 9, 0, false, "", "", 0⟩, ⟨ "To", 9, 1, false, "", "", 16⟩] := by kernel_rfl
@[go_sem] theorem Tryz.siz95 : Go.Abs.siz Tryz.prog 95 = some 2 := by kernel_rfl
@[go_sem] theorem Tryz.byt95 : Go.Abs.byt Tryz.prog 95 = some 32 := by kernel_rfl
@[go_sem] theorem Tryz.azero95 : Go.Abs.aZero Tryz.prog 95 = some (2, .agg [.v (.string ByteArray.empty), .v (.string ByteArray.empty)]) := by kernel_rfl
@[go_sem] theorem Tryz.zer95 : Go.Abs.zer Tryz.prog 95 = some (.agg [.v (.string ByteArray.empty), .v (.string ByteArray.empty)]) := by kernel_rfl
@[go_sem] theorem Tryz.plainSrc95 : Go.Abs.plainSrc Tryz.prog 95 = false := by kernel_rfl
@[go_sem] theorem Tryz.fld95_0 : Go.Abs.fld Tryz.prog 95 0 = some (0, 1, false) := by kernel_rfl
@[go_sem] theorem Tryz.fld95_1 : Go.Abs.fld Tryz.prog 95 1 = some (1, 1, false) := by kernel_rfl
@[go_sem] theorem Tryz.und96 : Go.Abs.und Tryz.prog 96 = .struct #[⟨ "From", 9, 0, false, "", "", 0⟩, ⟨ "To", 9, 1, false, "", "", 16⟩] := by kernel_rfl
@[go_sem] theorem Tryz.siz96 : Go.Abs.siz Tryz.prog 96 = some 2 := by kernel_rfl
@[go_sem] theorem Tryz.byt96 : Go.Abs.byt Tryz.prog 96 = some 32 := by kernel_rfl
@[go_sem] theorem Tryz.azero96 : Go.Abs.aZero Tryz.prog 96 = some (2, .agg [.v (.string ByteArray.empty), .v (.string ByteArray.empty)]) := by kernel_rfl
@[go_sem] theorem Tryz.zer96 : Go.Abs.zer Tryz.prog 96 = some (.agg [.v (.string ByteArray.empty), .v (.string ByteArray.empty)]) := by kernel_rfl
@[go_sem] theorem Tryz.plainSrc96 : Go.Abs.plainSrc Tryz.prog 96 = false := by kernel_rfl
@[go_sem] theorem Tryz.fld96_0 : Go.Abs.fld Tryz.prog 96 0 = some (0, 1, false) := by kernel_rfl
@[go_sem] theorem Tryz.fld96_1 : Go.Abs.fld Tryz.prog 96 1 = some (1, 1, false) := by kernel_rfl
@[go_sem] theorem Tryz.und98 : Go.Abs.und Tryz.prog 98 = .slice 101 := by kernel_rfl
@[go_sem] theorem Tryz.siz98 : Go.Abs.siz Tryz.prog 98 = some 1 := by kernel_rfl
@[go_sem] theorem Tryz.byt98 : Go.Abs.byt Tryz.prog 98 = some 24 := by kernel_rfl
@[go_sem] theorem Tryz.azero98 : Go.Abs.aZero Tryz.prog 98 = some (1, .v (.slice none 0 0)) := by kernel_rfl
@[go_sem] theorem Tryz.zer98 : Go.Abs.zer Tryz.prog 98 = some (.v (.slice none 0 0)) := by kernel_rfl
@[go_sem] theorem Tryz.plainSrc98 : Go.Abs.plainSrc Tryz.prog 98 = true := by kernel_rfl
@[go_sem] theorem Tryz.und100 : Go.Abs.und Tryz.prog 100 = .struct #[⟨ "state", 3, 0, false, "", "skylark/admin", 0⟩, ⟨ "chain", 3, 1, false, "", "skylark/admin", 8⟩] := by kernel_rfl
@[go_sem] theorem Tryz.siz100 : Go.Abs.siz Tryz.prog 100 = some 2 := by kernel_rfl
@[go_sem] theorem Tryz.byt100 : Go.Abs.byt Tryz.prog 100 = some 16 := by kernel_rfl
@[go_sem] theorem Tryz.azero100 : Go.Abs.aZero Tryz.prog 100 = some (2, .agg [.v (.int .i64 0), .v (.int .i64 0)]) := by kernel_rfl
@[go_sem] theorem Tryz.zer100 : Go.Abs.zer Tryz.prog 100 = some (.agg [.v (.int .i64 0), .v (.int .i64 0)]) := by kernel_rfl
@[go_sem] theorem Tryz.plainSrc100 : Go.Abs.plainSrc Tryz.prog 100 = false := by kernel_rfl
@[go_sem] theorem Tryz.fld100_0 : Go.Abs.fld Tryz.prog 100 0 = some (0, 1, false) := by kernel_rfl
@[go_sem] theorem Tryz.fld100_1 : Go.Abs.fld Tryz.prog 100 1 = some (1, 1, false) := by kernel_rfl
@[go_sem] theorem Tryz.und101 : Go.Abs.und Tryz.prog 101 = .struct #[⟨ "state", 3, 0, false, "", "skylark/admin", 0⟩, ⟨ "chain", 3, 1, false, "", "skylark/admin", 8⟩] := by kernel_rfl
@[go_sem] theorem Tryz.siz101 : Go.Abs.siz Tryz.prog 101 = some 2 := by kernel_rfl
@[go_sem] theorem Tryz.byt101 : Go.Abs.byt Tryz.prog 101 = some 16 := by kernel_rfl
@[go_sem] theorem Tryz.azero101 : Go.Abs.aZero Tryz.prog 101 = some (2, .agg [.v (.int .i64 0), .v (.int .i64 0)]) := by kernel_rfl
@[go_sem] theorem Tryz.zer101 : Go.Abs.zer Tryz.prog 101 = some (.agg [.v (.int .i64 0), .v (.int .i64 0)]) := by kernel_rfl
@[go_sem] theorem Tryz.plainSrc101 : Go.Abs.plainSrc Tryz.prog 101 = false := by kernel_rfl
@[go_sem] theorem Tryz.fld101_0 : Go.Abs.fld Tryz.prog 101 0 = some (0, 1, false) := by kernel_rfl
@[go_sem] theorem Tryz.fld101_1 : Go.Abs.fld Tryz.prog 101 1 = some (1, 1, false) := by kernel_rfl
@[go_sem] theorem Tryz.und102 : Go.Abs.und Tryz.prog 102 = .slice 121 := by kernel_rfl
@[go_sem] theorem Tryz.siz102 : Go.Abs.siz Tryz.prog 102 = some 1 := by kernel_rfl
@[go_sem] theorem Tryz.byt102 : Go.Abs.byt Tryz.prog 102 = some 24 := by kernel_rfl
@[go_sem] theorem Tryz.azero102 : Go.Abs.aZero Tryz.prog 102 = some (1, .v (.slice none 0 0)) := by kernel_rfl
@[go_sem] theorem Tryz.zer102 : Go.Abs.zer Tryz.prog 102 = some (.v (.slice none 0 0)) := by kernel_rfl
@[go_sem] theorem Tryz.plainSrc102 : Go.Abs.plainSrc Tryz.prog 102 = true := by kernel_rfl
@[go_sem] theorem Tryz.und103 : Go.Abs.und Tryz.prog 103 = .pointer 49 := by kernel_rfl
@[go_sem] theorem Tryz.siz103 : Go.Abs.siz Tryz.prog 103 = some 1 := by kernel_rfl
@[go_sem] theorem Tryz.byt103 : Go.Abs.byt Tryz.prog 103 = some 8 := by kernel_rfl
@[go_sem] theorem Tryz.azero103 : Go.Abs.aZero Tryz.prog 103 = some (1, .v (.pointer none)) := by kernel_rfl
@[go_sem] theorem Tryz.zer103 : Go.Abs.zer Tryz.prog 103 = some (.v (.pointer none)) := by kernel_rfl
@[go_sem] theorem Tryz.plainSrc103 : Go.Abs.plainSrc Tryz.prog 103 = false := by kernel_rfl
@[go_sem] theorem Tryz.und104 : Go.Abs.und Tryz.prog 104 = .struct #[⟨ "bricks", 98, 0, false, "", "skylark/admin", 0⟩, ⟨ "chains", 102, 1, false, "", "skylark/admin", 24⟩, ⟨ "layout", 43, 2, false, "", "skylark/admin", 48⟩, ⟨ "change", 103, 4, false, "", "skylark/admin", 80⟩] := by kernel_rfl
@[go_sem] theorem Tryz.siz104 : Go.Abs.siz Tryz.prog 104 = some 5 := by kernel_rfl
@[go_sem] theorem Tryz.byt104 : Go.Abs.byt Tryz.prog 104 = some 88 := by kernel_rfl
@[go_sem] theorem Tryz.azero104 : Go.Abs.aZero Tryz.prog 104 = some (5, .agg [.v (.slice none 0 0), .v (.slice none 0 0), .v (.int .i64 0), .v (.slice none 0 0), .v (.pointer none)]) := by kernel_rfl
@[go_sem] theorem Tryz.zer104 : Go.Abs.zer Tryz.prog 104 = some (.agg [.v (.slice none 0 0), .v (.slice none 0 0), .v (.int .i64 0), .v (.slice none 0 0), .v (.pointer none)]) := by kernel_rfl
@[go_sem] theorem Tryz.plainSrc104 : Go.Abs.plainSrc Tryz.prog 104 = false := by kernel_rfl
@[go_sem] theorem Tryz.fld104_0 : Go.Abs.fld Tryz.prog 104 0 = some (0, 1, false) := by kernel_rfl
@[go_sem] theorem Tryz.fld104_1 : Go.Abs.fld Tryz.prog 104 1 = some (1, 1, false) := by kernel_rfl
@[go_sem] theorem Tryz.fld104_2 : Go.Abs.fld Tryz.prog 104 2 = some (2, 2, true) := by kernel_rfl
@[go_sem] theorem Tryz.fld104_3 : Go.Abs.fld Tryz.prog 104 3 = some (4, 1, false) := by kernel_rfl
@[go_sem] theorem Tryz.und105 : Go.Abs.und Tryz.prog 105 = .struct #[⟨ "bricks", 98, 0, false, "", "skylark/admin", 0⟩, ⟨ "chains", 102, 1, false, "", "skylark/admin", 24⟩, ⟨ "layout", 43, 2, false, "", "skylark/admin", 48⟩, ⟨ "change", 103, 4, false, "", "skylark/admin", 80⟩] := by kernel_rfl
@[go_sem] theorem Tryz.siz105 : Go.Abs.siz Tryz.prog 105 = some 5 := by kernel_rfl
@[go_sem] theorem Tryz.byt105 : Go.Abs.byt Tryz.prog 105 = some 88 := by kernel_rfl
@[go_sem] theorem Tryz.azero105 : Go.Abs.aZero Tryz.prog 105 = some (5, .agg [.v (.slice none 0 0), .v (.slice none 0 0), .v (.int .i64 0), .v (.slice none 0 0), .v (.pointer none)]) := by kernel_rfl
@[go_sem] theorem Tryz.zer105 : Go.Abs.zer Tryz.prog 105 = some (.agg [.v (.slice none 0 0), .v (.slice none 0 0), .v (.int .i64 0), .v (.slice none 0 0), .v (.pointer none)]) := by kernel_rfl
@[go_sem] theorem Tryz.plainSrc105 : Go.Abs.plainSrc Tryz.prog 105 = false := by kernel_rfl
@[go_sem] theorem Tryz.fld105_0 : Go.Abs.fld Tryz.prog 105 0 = some (0, 1, false) := by kernel_rfl
@[go_sem] theorem Tryz.fld105_1 : Go.Abs.fld Tryz.prog 105 1 = some (1, 1, false) := by kernel_rfl
@[go_sem] theorem Tryz.fld105_2 : Go.Abs.fld Tryz.prog 105 2 = some (2, 2, true) := by kernel_rfl
@[go_sem] theorem Tryz.fld105_3 : Go.Abs.fld Tryz.prog 105 3 = some (4, 1, false) := by kernel_rfl
@[go_sem] theorem Tryz.und106 : Go.Abs.und Tryz.prog 106 = .slice 110 := by kernel_rfl
@[go_sem] theorem Tryz.siz106 : Go.Abs.siz Tryz.prog 106 = some 1 := by kernel_rfl
@[go_sem] theorem Tryz.byt106 : Go.Abs.byt Tryz.prog 106 = some 24 := by kernel_rfl
@[go_sem] theorem Tryz.azero106 : Go.Abs.aZero Tryz.prog 106 = some (1, .v (.slice none 0 0)) := by kernel_rfl
@[go_sem] theorem Tryz.zer106 : Go.Abs.zer Tryz.prog 106 = some (.v (.slice none 0 0)) := by kernel_rfl
@[go_sem] theorem Tryz.plainSrc106 : Go.Abs.plainSrc Tryz.prog 106 = true := by kernel_rfl
@[go_sem] theorem Tryz.und107 : Go.Abs.und Tryz.prog 107 = .struct #[⟨ "B", 106, 0, false, "", "", 0⟩, ⟨ "C", 102, 1, false, "", "", 24⟩, ⟨ "L", 43, 2, false, "", "", 48⟩, ⟨ "Going", 4, 4, false, "", "", 80⟩, ⟨ "Ch", 68, 5, false, "", "", 88⟩] := by kernel_rfl
@[go_sem] theorem Tryz.siz107 : Go.Abs.siz Tryz.prog 107 = some 11 := by kernel_rfl
@[go_sem] theorem Tryz.byt107 : Go.Abs.byt Tryz.prog 107 = some 176 := by kernel_rfl
@[go_sem] theorem Tryz.azero107 : Go.Abs.aZero Tryz.prog 107 = some (11, .agg [.v (.slice none 0 0), .v (.slice none 0 0), .v (.int .i64 0), .v (.slice none 0 0), .v (.bool false), .v (.int .i64 0), .v (.slice none 0 0), .v (.int .i64 0), .v (.slice none 0 0), .v (.string ByteArray.empty), .v (.bool false)]) := by kernel_rfl
@[go_sem] theorem Tryz.zer107 : Go.Abs.zer Tryz.prog 107 = some (.agg [.v (.slice none 0 0), .v (.slice none 0 0), .v (.int .i64 0), .v (.slice none 0 0), .v (.bool false), .v (.int .i64 0), .v (.slice none 0 0), .v (.int .i64 0), .v (.slice none 0 0), .v (.string ByteArray.empty), .v (.bool false)]) := by kernel_rfl
@[go_sem] theorem Tryz.plainSrc107 : Go.Abs.plainSrc Tryz.prog 107 = false := by kernel_rfl
@[go_sem] theorem Tryz.fld107_0 : Go.Abs.fld Tryz.prog 107 0 = some (0, 1, false) := by kernel_rfl
@[go_sem] theorem Tryz.fld107_1 : Go.Abs.fld Tryz.prog 107 1 = some (1, 1, false) := by kernel_rfl
@[go_sem] theorem Tryz.fld107_2 : Go.Abs.fld Tryz.prog 107 2 = some (2, 2, true) := by kernel_rfl
@[go_sem] theorem Tryz.fld107_3 : Go.Abs.fld Tryz.prog 107 3 = some (4, 1, false) := by kernel_rfl
@[go_sem] theorem Tryz.fld107_4 : Go.Abs.fld Tryz.prog 107 4 = some (5, 6, true) := by kernel_rfl
@[go_sem] theorem Tryz.und108 : Go.Abs.und Tryz.prog 108 = .struct #[⟨ "B", 106, 0, false, "", "", 0⟩, ⟨ "C", 102, 1, false, "", "", 24⟩, ⟨ "L", 43, 2, false, "", "", 48⟩, ⟨ "Going", 4, 4, false, "", "", 80⟩, ⟨ "Ch", 68, 5, false, "", "", 88⟩] := by kernel_rfl
@[go_sem] theorem Tryz.siz108 : Go.Abs.siz Tryz.prog 108 = some 11 := by kernel_rfl
@[go_sem] theorem Tryz.byt108 : Go.Abs.byt Tryz.prog 108 = some 176 := by kernel_rfl
@[go_sem] theorem Tryz.azero108 : Go.Abs.aZero Tryz.prog 108 = some (11, .agg [.v (.slice none 0 0), .v (.slice none 0 0), .v (.int .i64 0), .v (.slice none 0 0), .v (.bool false), .v (.int .i64 0), .v (.slice none 0 0), .v (.int .i64 0), .v (.slice none 0 0), .v (.string ByteArray.empty), .v (.bool false)]) := by kernel_rfl
@[go_sem] theorem Tryz.zer108 : Go.Abs.zer Tryz.prog 108 = some (.agg [.v (.slice none 0 0), .v (.slice none 0 0), .v (.int .i64 0), .v (.slice none 0 0), .v (.bool false), .v (.int .i64 0), .v (.slice none 0 0), .v (.int .i64 0), .v (.slice none 0 0), .v (.string ByteArray.empty), .v (.bool false)]) := by kernel_rfl
@[go_sem] theorem Tryz.plainSrc108 : Go.Abs.plainSrc Tryz.prog 108 = false := by kernel_rfl
@[go_sem] theorem Tryz.fld108_0 : Go.Abs.fld Tryz.prog 108 0 = some (0, 1, false) := by kernel_rfl
@[go_sem] theorem Tryz.fld108_1 : Go.Abs.fld Tryz.prog 108 1 = some (1, 1, false) := by kernel_rfl
@[go_sem] theorem Tryz.fld108_2 : Go.Abs.fld Tryz.prog 108 2 = some (2, 2, true) := by kernel_rfl
@[go_sem] theorem Tryz.fld108_3 : Go.Abs.fld Tryz.prog 108 3 = some (4, 1, false) := by kernel_rfl
@[go_sem] theorem Tryz.fld108_4 : Go.Abs.fld Tryz.prog 108 4 = some (5, 6, true) := by kernel_rfl
@[go_sem] theorem Tryz.und109 : Go.Abs.und Tryz.prog 109 = .struct #[⟨ "State", 3, 0, false, "", "", 0⟩, ⟨ "Chain", 3, 1, false, "", "", 8⟩] := by kernel_rfl
@[go_sem] theorem Tryz.siz109 : Go.Abs.siz Tryz.prog 109 = some 2 := by kernel_rfl
@[go_sem] theorem Tryz.byt109 : Go.Abs.byt Tryz.prog 109 = some 16 := by kernel_rfl
@[go_sem] theorem Tryz.azero109 : Go.Abs.aZero Tryz.prog 109 = some (2, .agg [.v (.int .i64 0), .v (.int .i64 0)]) := by kernel_rfl
@[go_sem] theorem Tryz.zer109 : Go.Abs.zer Tryz.prog 109 = some (.agg [.v (.int .i64 0), .v (.int .i64 0)]) := by kernel_rfl
@[go_sem] theorem Tryz.plainSrc109 : Go.Abs.plainSrc Tryz.prog 109 = false := by kernel_rfl
@[go_sem] theorem Tryz.fld109_0 : Go.Abs.fld Tryz.prog 109 0 = some (0, 1, false) := by kernel_rfl
@[go_sem] theorem Tryz.fld109_1 : Go.Abs.fld Tryz.prog 109 1 = some (1, 1, false) := by kernel_rfl
@[go_sem] theorem Tryz.und110 : Go.Abs.und Tryz.prog 110 = .struct #[⟨ "State", 3, 0, false, "", "", 0⟩, ⟨ "Chain", 3, 1, false, "", "", 8⟩] := by kernel_rfl
@[go_sem] theorem Tryz.siz110 : Go.Abs.siz Tryz.prog 110 = some 2 := by kernel_rfl
@[go_sem] theorem Tryz.byt110 : Go.Abs.byt Tryz.prog 110 = some 16 := by kernel_rfl
@[go_sem] theorem Tryz.azero110 : Go.Abs.aZero Tryz.prog 110 = some (2, .agg [.v (.int .i64 0), .v (.int .i64 0)]) := by kernel_rfl
@[go_sem] theorem Tryz.zer110 : Go.Abs.zer Tryz.prog 110 = some (.agg [.v (.int .i64 0), .v (.int .i64 0)]) := by kernel_rfl
@[go_sem] theorem Tryz.plainSrc110 : Go.Abs.plainSrc Tryz.prog 110 = false := by kernel_rfl
@[go_sem] theorem Tryz.fld110_0 : Go.Abs.fld Tryz.prog 110 0 = some (0, 1, false) := by kernel_rfl
@[go_sem] theorem Tryz.fld110_1 : Go.Abs.fld Tryz.prog 110 1 = some (1, 1, false) := by kernel_rfl
@[go_sem] theorem Tryz.und111 : Go.Abs.und Tryz.prog 111 = .slice 115 := by kernel_rfl
@[go_sem] theorem Tryz.siz111 : Go.Abs.siz Tryz.prog 111 = some 1 := by kernel_rfl
@[go_sem] theorem Tryz.byt111 : Go.Abs.byt Tryz.prog 111 = some 24 := by kernel_rfl
@[go_sem] theorem Tryz.azero111 : Go.Abs.aZero Tryz.prog 111 = some (1, .v (.slice none 0 0)) := by kernel_rfl
@[go_sem] theorem Tryz.zer111 : Go.Abs.zer Tryz.prog 111 = some (.v (.slice none 0 0)) := by kernel_rfl
@[go_sem] theorem Tryz.plainSrc111 : Go.Abs.plainSrc Tryz.prog 111 = true := by kernel_rfl
@[go_sem] theorem Tryz.und114 : Go.Abs.und Tryz.prog 114 = .struct #[⟨ "chain", 4, 0, false, "", "skylark/admin", 0⟩, ⟨ "brick", 4, 1, false, "", "skylark/admin", 1⟩, ⟨ "epoch", 4, 2, false, "", "skylark/admin", 2⟩, ⟨ "list", 4, 3, false, "", "skylark/admin", 3⟩, ⟨ "cursor", 4, 4, false, "", "skylark/admin", 4⟩, ⟨ "do", 113, 5, false, "", "skylark/admin", 8⟩] := by kernel_rfl
@[go_sem] theorem Tryz.siz114 : Go.Abs.siz Tryz.prog 114 = some 6 := by kernel_rfl
@[go_sem] theorem Tryz.byt114 : Go.Abs.byt Tryz.prog 114 = some 16 := by kernel_rfl
@[go_sem] theorem Tryz.azero114 : Go.Abs.aZero Tryz.prog 114 = some (6, .agg [.v (.bool false), .v (.bool false), .v (.bool false), .v (.bool false), .v (.bool false), .v (.nilFunc)]) := by kernel_rfl
@[go_sem] theorem Tryz.zer114 : Go.Abs.zer Tryz.prog 114 = some (.agg [.v (.bool false), .v (.bool false), .v (.bool false), .v (.bool false), .v (.bool false), .v (.nilFunc)]) := by kernel_rfl
@[go_sem] theorem Tryz.plainSrc114 : Go.Abs.plainSrc Tryz.prog 114 = false := by kernel_rfl
@[go_sem] theorem Tryz.fld114_0 : Go.Abs.fld Tryz.prog 114 0 = some (0, 1, false) := by kernel_rfl
@[go_sem] theorem Tryz.fld114_1 : Go.Abs.fld Tryz.prog 114 1 = some (1, 1, false) := by kernel_rfl
@[go_sem] theorem Tryz.fld114_2 : Go.Abs.fld Tryz.prog 114 2 = some (2, 1, false) := by kernel_rfl
@[go_sem] theorem Tryz.fld114_3 : Go.Abs.fld Tryz.prog 114 3 = some (3, 1, false) := by kernel_rfl
@[go_sem] theorem Tryz.fld114_4 : Go.Abs.fld Tryz.prog 114 4 = some (4, 1, false) := by kernel_rfl
@[go_sem] theorem Tryz.fld114_5 : Go.Abs.fld Tryz.prog 114 5 = some (5, 1, false) := by kernel_rfl
@[go_sem] theorem Tryz.und115 : Go.Abs.und Tryz.prog 115 = .struct #[⟨ "chain", 4, 0, false, "", "skylark/admin", 0⟩, ⟨ "brick", 4, 1, false, "", "skylark/admin", 1⟩, ⟨ "epoch", 4, 2, false, "", "skylark/admin", 2⟩, ⟨ "list", 4, 3, false, "", "skylark/admin", 3⟩, ⟨ "cursor", 4, 4, false, "", "skylark/admin", 4⟩, ⟨ "do", 113, 5, false, "", "skylark/admin", 8⟩] := by kernel_rfl
@[go_sem] theorem Tryz.siz115 : Go.Abs.siz Tryz.prog 115 = some 6 := by kernel_rfl
@[go_sem] theorem Tryz.byt115 : Go.Abs.byt Tryz.prog 115 = some 16 := by kernel_rfl
@[go_sem] theorem Tryz.azero115 : Go.Abs.aZero Tryz.prog 115 = some (6, .agg [.v (.bool false), .v (.bool false), .v (.bool false), .v (.bool false), .v (.bool false), .v (.nilFunc)]) := by kernel_rfl
@[go_sem] theorem Tryz.zer115 : Go.Abs.zer Tryz.prog 115 = some (.agg [.v (.bool false), .v (.bool false), .v (.bool false), .v (.bool false), .v (.bool false), .v (.nilFunc)]) := by kernel_rfl
@[go_sem] theorem Tryz.plainSrc115 : Go.Abs.plainSrc Tryz.prog 115 = false := by kernel_rfl
@[go_sem] theorem Tryz.fld115_0 : Go.Abs.fld Tryz.prog 115 0 = some (0, 1, false) := by kernel_rfl
@[go_sem] theorem Tryz.fld115_1 : Go.Abs.fld Tryz.prog 115 1 = some (1, 1, false) := by kernel_rfl
@[go_sem] theorem Tryz.fld115_2 : Go.Abs.fld Tryz.prog 115 2 = some (2, 1, false) := by kernel_rfl
@[go_sem] theorem Tryz.fld115_3 : Go.Abs.fld Tryz.prog 115 3 = some (3, 1, false) := by kernel_rfl
@[go_sem] theorem Tryz.fld115_4 : Go.Abs.fld Tryz.prog 115 4 = some (4, 1, false) := by kernel_rfl
@[go_sem] theorem Tryz.fld115_5 : Go.Abs.fld Tryz.prog 115 5 = some (5, 1, false) := by kernel_rfl
@[go_sem] theorem Tryz.und120 : Go.Abs.und Tryz.prog 120 = .struct #[⟨ "Epoch", 3, 0, false, "", "", 0⟩, ⟨ "Order", 31, 1, false, "", "", 8⟩, ⟨ "Repair", 31, 2, false, "", "", 32⟩] := by kernel_rfl
@[go_sem] theorem Tryz.siz120 : Go.Abs.siz Tryz.prog 120 = some 3 := by kernel_rfl
@[go_sem] theorem Tryz.byt120 : Go.Abs.byt Tryz.prog 120 = some 56 := by kernel_rfl
@[go_sem] theorem Tryz.azero120 : Go.Abs.aZero Tryz.prog 120 = some (3, .agg [.v (.int .i64 0), .v (.slice none 0 0), .v (.slice none 0 0)]) := by kernel_rfl
@[go_sem] theorem Tryz.zer120 : Go.Abs.zer Tryz.prog 120 = some (.agg [.v (.int .i64 0), .v (.slice none 0 0), .v (.slice none 0 0)]) := by kernel_rfl
@[go_sem] theorem Tryz.plainSrc120 : Go.Abs.plainSrc Tryz.prog 120 = false := by kernel_rfl
@[go_sem] theorem Tryz.fld120_0 : Go.Abs.fld Tryz.prog 120 0 = some (0, 1, false) := by kernel_rfl
@[go_sem] theorem Tryz.fld120_1 : Go.Abs.fld Tryz.prog 120 1 = some (1, 1, false) := by kernel_rfl
@[go_sem] theorem Tryz.fld120_2 : Go.Abs.fld Tryz.prog 120 2 = some (2, 1, false) := by kernel_rfl
@[go_sem] theorem Tryz.und121 : Go.Abs.und Tryz.prog 121 = .struct #[⟨ "Epoch", 3, 0, false, "", "", 0⟩, ⟨ "Order", 31, 1, false, "", "", 8⟩, ⟨ "Repair", 31, 2, false, "", "", 32⟩] := by kernel_rfl
@[go_sem] theorem Tryz.siz121 : Go.Abs.siz Tryz.prog 121 = some 3 := by kernel_rfl
@[go_sem] theorem Tryz.byt121 : Go.Abs.byt Tryz.prog 121 = some 56 := by kernel_rfl
@[go_sem] theorem Tryz.azero121 : Go.Abs.aZero Tryz.prog 121 = some (3, .agg [.v (.int .i64 0), .v (.slice none 0 0), .v (.slice none 0 0)]) := by kernel_rfl
@[go_sem] theorem Tryz.zer121 : Go.Abs.zer Tryz.prog 121 = some (.agg [.v (.int .i64 0), .v (.slice none 0 0), .v (.slice none 0 0)]) := by kernel_rfl
@[go_sem] theorem Tryz.plainSrc121 : Go.Abs.plainSrc Tryz.prog 121 = false := by kernel_rfl
@[go_sem] theorem Tryz.fld121_0 : Go.Abs.fld Tryz.prog 121 0 = some (0, 1, false) := by kernel_rfl
@[go_sem] theorem Tryz.fld121_1 : Go.Abs.fld Tryz.prog 121 1 = some (1, 1, false) := by kernel_rfl
@[go_sem] theorem Tryz.fld121_2 : Go.Abs.fld Tryz.prog 121 2 = some (2, 1, false) := by kernel_rfl
@[go_sem] theorem Tryz.und128 : Go.Abs.und Tryz.prog 128 = .struct #[⟨ "c", 33, 0, false, "", "skylark/skylarklaw18", 0⟩, ⟨ "order", 31, 6, false, "", "skylark/skylarklaw18", 72⟩, ⟨ "repair", 31, 7, false, "", "skylark/skylarklaw18", 96⟩] := by kernel_rfl
@[go_sem] theorem Tryz.siz128 : Go.Abs.siz Tryz.prog 128 = some 8 := by kernel_rfl
@[go_sem] theorem Tryz.byt128 : Go.Abs.byt Tryz.prog 128 = some 120 := by kernel_rfl
@[go_sem] theorem Tryz.azero128 : Go.Abs.aZero Tryz.prog 128 = some (8, .agg [.v (.int .i64 0), .v (.int .i64 0), .v (.int .i64 0), .v (.int .i64 0), .v (.slice none 0 0), .v (.string ByteArray.empty), .v (.slice none 0 0), .v (.slice none 0 0)]) := by kernel_rfl
@[go_sem] theorem Tryz.zer128 : Go.Abs.zer Tryz.prog 128 = some (.agg [.v (.int .i64 0), .v (.int .i64 0), .v (.int .i64 0), .v (.int .i64 0), .v (.slice none 0 0), .v (.string ByteArray.empty), .v (.slice none 0 0), .v (.slice none 0 0)]) := by kernel_rfl
@[go_sem] theorem Tryz.plainSrc128 : Go.Abs.plainSrc Tryz.prog 128 = false := by kernel_rfl
@[go_sem] theorem Tryz.fld128_0 : Go.Abs.fld Tryz.prog 128 0 = some (0, 6, true) := by kernel_rfl
@[go_sem] theorem Tryz.fld128_1 : Go.Abs.fld Tryz.prog 128 1 = some (6, 1, false) := by kernel_rfl
@[go_sem] theorem Tryz.fld128_2 : Go.Abs.fld Tryz.prog 128 2 = some (7, 1, false) := by kernel_rfl
@[go_sem] theorem Tryz.und129 : Go.Abs.und Tryz.prog 129 = .slice 128 := by kernel_rfl
@[go_sem] theorem Tryz.siz129 : Go.Abs.siz Tryz.prog 129 = some 1 := by kernel_rfl
@[go_sem] theorem Tryz.byt129 : Go.Abs.byt Tryz.prog 129 = some 24 := by kernel_rfl
@[go_sem] theorem Tryz.azero129 : Go.Abs.aZero Tryz.prog 129 = some (1, .v (.slice none 0 0)) := by kernel_rfl
@[go_sem] theorem Tryz.zer129 : Go.Abs.zer Tryz.prog 129 = some (.v (.slice none 0 0)) := by kernel_rfl
@[go_sem] theorem Tryz.plainSrc129 : Go.Abs.plainSrc Tryz.prog 129 = true := by kernel_rfl
@[go_sem] theorem Tryz.und130 : Go.Abs.und Tryz.prog 130 = .struct #[⟨ "Key", 9, 0, false, "", "", 0⟩, ⟨ "Stamp", 3, 1, false, "", "", 16⟩, ⟨ "Val", 9, 2, false, "", "", 24⟩] := by kernel_rfl
@[go_sem] theorem Tryz.siz130 : Go.Abs.siz Tryz.prog 130 = some 3 := by kernel_rfl
@[go_sem] theorem Tryz.byt130 : Go.Abs.byt Tryz.prog 130 = some 40 := by kernel_rfl
@[go_sem] theorem Tryz.azero130 : Go.Abs.aZero Tryz.prog 130 = some (3, .agg [.v (.string ByteArray.empty), .v (.int .i64 0), .v (.string ByteArray.empty)]) := by kernel_rfl
@[go_sem] theorem Tryz.zer130 : Go.Abs.zer Tryz.prog 130 = some (.agg [.v (.string ByteArray.empty), .v (.int .i64 0), .v (.string ByteArray.empty)]) := by kernel_rfl
@[go_sem] theorem Tryz.plainSrc130 : Go.Abs.plainSrc Tryz.prog 130 = false := by kernel_rfl
@[go_sem] theorem Tryz.fld130_0 : Go.Abs.fld Tryz.prog 130 0 = some (0, 1, false) := by kernel_rfl
@[go_sem] theorem Tryz.fld130_1 : Go.Abs.fld Tryz.prog 130 1 = some (1, 1, false) := by kernel_rfl
@[go_sem] theorem Tryz.fld130_2 : Go.Abs.fld Tryz.prog 130 2 = some (2, 1, false) := by kernel_rfl
@[go_sem] theorem Tryz.und131 : Go.Abs.und Tryz.prog 131 = .struct #[⟨ "Key", 9, 0, false, "", "", 0⟩, ⟨ "Stamp", 3, 1, false, "", "", 16⟩, ⟨ "Val", 9, 2, false, "", "", 24⟩] := by kernel_rfl
@[go_sem] theorem Tryz.siz131 : Go.Abs.siz Tryz.prog 131 = some 3 := by kernel_rfl
@[go_sem] theorem Tryz.byt131 : Go.Abs.byt Tryz.prog 131 = some 40 := by kernel_rfl
@[go_sem] theorem Tryz.azero131 : Go.Abs.aZero Tryz.prog 131 = some (3, .agg [.v (.string ByteArray.empty), .v (.int .i64 0), .v (.string ByteArray.empty)]) := by kernel_rfl
@[go_sem] theorem Tryz.zer131 : Go.Abs.zer Tryz.prog 131 = some (.agg [.v (.string ByteArray.empty), .v (.int .i64 0), .v (.string ByteArray.empty)]) := by kernel_rfl
@[go_sem] theorem Tryz.plainSrc131 : Go.Abs.plainSrc Tryz.prog 131 = false := by kernel_rfl
@[go_sem] theorem Tryz.fld131_0 : Go.Abs.fld Tryz.prog 131 0 = some (0, 1, false) := by kernel_rfl
@[go_sem] theorem Tryz.fld131_1 : Go.Abs.fld Tryz.prog 131 1 = some (1, 1, false) := by kernel_rfl
@[go_sem] theorem Tryz.fld131_2 : Go.Abs.fld Tryz.prog 131 2 = some (2, 1, false) := by kernel_rfl
@[go_sem] theorem Tryz.und137 : Go.Abs.und Tryz.prog 137 = .slice 141 := by kernel_rfl
@[go_sem] theorem Tryz.siz137 : Go.Abs.siz Tryz.prog 137 = some 1 := by kernel_rfl
@[go_sem] theorem Tryz.byt137 : Go.Abs.byt Tryz.prog 137 = some 24 := by kernel_rfl
@[go_sem] theorem Tryz.azero137 : Go.Abs.aZero Tryz.prog 137 = some (1, .v (.slice none 0 0)) := by kernel_rfl
@[go_sem] theorem Tryz.zer137 : Go.Abs.zer Tryz.prog 137 = some (.v (.slice none 0 0)) := by kernel_rfl
@[go_sem] theorem Tryz.plainSrc137 : Go.Abs.plainSrc Tryz.prog 137 = true := by kernel_rfl
@[go_sem] theorem Tryz.und142 : Go.Abs.und Tryz.prog 142 = .slice 9 := by kernel_rfl
@[go_sem] theorem Tryz.siz142 : Go.Abs.siz Tryz.prog 142 = some 1 := by kernel_rfl
@[go_sem] theorem Tryz.byt142 : Go.Abs.byt Tryz.prog 142 = some 24 := by kernel_rfl
@[go_sem] theorem Tryz.azero142 : Go.Abs.aZero Tryz.prog 142 = some (1, .v (.slice none 0 0)) := by kernel_rfl
@[go_sem] theorem Tryz.zer142 : Go.Abs.zer Tryz.prog 142 = some (.v (.slice none 0 0)) := by kernel_rfl
@[go_sem] theorem Tryz.plainSrc142 : Go.Abs.plainSrc Tryz.prog 142 = true := by kernel_rfl
@[go_sem] theorem Tryz.und147 : Go.Abs.und Tryz.prog 147 = .pointer 149 := by kernel_rfl
@[go_sem] theorem Tryz.siz147 : Go.Abs.siz Tryz.prog 147 = some 1 := by kernel_rfl
@[go_sem] theorem Tryz.byt147 : Go.Abs.byt Tryz.prog 147 = some 8 := by kernel_rfl
@[go_sem] theorem Tryz.azero147 : Go.Abs.aZero Tryz.prog 147 = some (1, .v (.pointer none)) := by kernel_rfl
@[go_sem] theorem Tryz.zer147 : Go.Abs.zer Tryz.prog 147 = some (.v (.pointer none)) := by kernel_rfl
@[go_sem] theorem Tryz.plainSrc147 : Go.Abs.plainSrc Tryz.prog 147 = false := by kernel_rfl
@[go_sem] theorem Tryz.und148 : Go.Abs.und Tryz.prog 148 = .struct #[⟨ "L", 47, 0, false, "", "", 0⟩] := by kernel_rfl
@[go_sem] theorem Tryz.siz148 : Go.Abs.siz Tryz.prog 148 = some 1 := by kernel_rfl
@[go_sem] theorem Tryz.byt148 : Go.Abs.byt Tryz.prog 148 = some 24 := by kernel_rfl
@[go_sem] theorem Tryz.azero148 : Go.Abs.aZero Tryz.prog 148 = some (1, .agg [.v (.slice none 0 0)]) := by kernel_rfl
@[go_sem] theorem Tryz.zer148 : Go.Abs.zer Tryz.prog 148 = some (.agg [.v (.slice none 0 0)]) := by kernel_rfl
@[go_sem] theorem Tryz.plainSrc148 : Go.Abs.plainSrc Tryz.prog 148 = false := by kernel_rfl
@[go_sem] theorem Tryz.fld148_0 : Go.Abs.fld Tryz.prog 148 0 = some (0, 1, false) := by kernel_rfl
@[go_sem] theorem Tryz.und149 : Go.Abs.und Tryz.prog 149 = .struct #[⟨ "L", 47, 0, false, "", "", 0⟩] := by kernel_rfl
@[go_sem] theorem Tryz.siz149 : Go.Abs.siz Tryz.prog 149 = some 1 := by kernel_rfl
@[go_sem] theorem Tryz.byt149 : Go.Abs.byt Tryz.prog 149 = some 24 := by kernel_rfl
@[go_sem] theorem Tryz.azero149 : Go.Abs.aZero Tryz.prog 149 = some (1, .agg [.v (.slice none 0 0)]) := by kernel_rfl
@[go_sem] theorem Tryz.zer149 : Go.Abs.zer Tryz.prog 149 = some (.agg [.v (.slice none 0 0)]) := by kernel_rfl
@[go_sem] theorem Tryz.plainSrc149 : Go.Abs.plainSrc Tryz.prog 149 = false := by kernel_rfl
@[go_sem] theorem Tryz.fld149_0 : Go.Abs.fld Tryz.prog 149 0 = some (0, 1, false) := by kernel_rfl
@[go_sem] theorem Tryz.und156 : Go.Abs.und Tryz.prog 156 = .struct #[⟨ "Code", 24, 0, false, "", "", 0⟩, ⟨ "Stamp", 3, 1, false, "", "", 8⟩, ⟨ "Val", 9, 2, false, "", "", 16⟩, ⟨ "Rows", 47, 3, false, "", "", 32⟩] := by kernel_rfl
@[go_sem] theorem Tryz.siz156 : Go.Abs.siz Tryz.prog 156 = some 4 := by kernel_rfl
@[go_sem] theorem Tryz.byt156 : Go.Abs.byt Tryz.prog 156 = some 56 := by kernel_rfl
@[go_sem] theorem Tryz.azero156 : Go.Abs.aZero Tryz.prog 156 = some (4, .agg [.v (.int .i64 0), .v (.int .i64 0), .v (.string ByteArray.empty), .v (.slice none 0 0)]) := by kernel_rfl
@[go_sem] theorem Tryz.zer156 : Go.Abs.zer Tryz.prog 156 = some (.agg [.v (.int .i64 0), .v (.int .i64 0), .v (.string ByteArray.empty), .v (.slice none 0 0)]) := by kernel_rfl
@[go_sem] theorem Tryz.plainSrc156 : Go.Abs.plainSrc Tryz.prog 156 = false := by kernel_rfl
@[go_sem] theorem Tryz.fld156_0 : Go.Abs.fld Tryz.prog 156 0 = some (0, 1, false) := by kernel_rfl
@[go_sem] theorem Tryz.fld156_1 : Go.Abs.fld Tryz.prog 156 1 = some (1, 1, false) := by kernel_rfl
@[go_sem] theorem Tryz.fld156_2 : Go.Abs.fld Tryz.prog 156 2 = some (2, 1, false) := by kernel_rfl
@[go_sem] theorem Tryz.fld156_3 : Go.Abs.fld Tryz.prog 156 3 = some (3, 1, false) := by kernel_rfl
@[go_sem] theorem Tryz.und157 : Go.Abs.und Tryz.prog 157 = .struct #[⟨ "Code", 24, 0, false, "", "", 0⟩, ⟨ "Stamp", 3, 1, false, "", "", 8⟩, ⟨ "Val", 9, 2, false, "", "", 16⟩, ⟨ "Rows", 47, 3, false, "", "", 32⟩] := by kernel_rfl
@[go_sem] theorem Tryz.siz157 : Go.Abs.siz Tryz.prog 157 = some 4 := by kernel_rfl
@[go_sem] theorem Tryz.byt157 : Go.Abs.byt Tryz.prog 157 = some 56 := by kernel_rfl
@[go_sem] theorem Tryz.azero157 : Go.Abs.aZero Tryz.prog 157 = some (4, .agg [.v (.int .i64 0), .v (.int .i64 0), .v (.string ByteArray.empty), .v (.slice none 0 0)]) := by kernel_rfl
@[go_sem] theorem Tryz.zer157 : Go.Abs.zer Tryz.prog 157 = some (.agg [.v (.int .i64 0), .v (.int .i64 0), .v (.string ByteArray.empty), .v (.slice none 0 0)]) := by kernel_rfl
@[go_sem] theorem Tryz.plainSrc157 : Go.Abs.plainSrc Tryz.prog 157 = false := by kernel_rfl
@[go_sem] theorem Tryz.fld157_0 : Go.Abs.fld Tryz.prog 157 0 = some (0, 1, false) := by kernel_rfl
@[go_sem] theorem Tryz.fld157_1 : Go.Abs.fld Tryz.prog 157 1 = some (1, 1, false) := by kernel_rfl
@[go_sem] theorem Tryz.fld157_2 : Go.Abs.fld Tryz.prog 157 2 = some (2, 1, false) := by kernel_rfl
@[go_sem] theorem Tryz.fld157_3 : Go.Abs.fld Tryz.prog 157 3 = some (3, 1, false) := by kernel_rfl
@[go_sem] theorem Tryz.und159 : Go.Abs.und Tryz.prog 159 = .struct #[⟨ "rows", 47, 0, false, "", "skylark/table", 0⟩] := by kernel_rfl
@[go_sem] theorem Tryz.siz159 : Go.Abs.siz Tryz.prog 159 = some 1 := by kernel_rfl
@[go_sem] theorem Tryz.byt159 : Go.Abs.byt Tryz.prog 159 = some 24 := by kernel_rfl
@[go_sem] theorem Tryz.azero159 : Go.Abs.aZero Tryz.prog 159 = some (1, .agg [.v (.slice none 0 0)]) := by kernel_rfl
@[go_sem] theorem Tryz.zer159 : Go.Abs.zer Tryz.prog 159 = some (.agg [.v (.slice none 0 0)]) := by kernel_rfl
@[go_sem] theorem Tryz.plainSrc159 : Go.Abs.plainSrc Tryz.prog 159 = false := by kernel_rfl
@[go_sem] theorem Tryz.fld159_0 : Go.Abs.fld Tryz.prog 159 0 = some (0, 1, false) := by kernel_rfl
@[go_sem] theorem Tryz.und160 : Go.Abs.und Tryz.prog 160 = .struct #[⟨ "rows", 47, 0, false, "", "skylark/table", 0⟩] := by kernel_rfl
@[go_sem] theorem Tryz.siz160 : Go.Abs.siz Tryz.prog 160 = some 1 := by kernel_rfl
@[go_sem] theorem Tryz.byt160 : Go.Abs.byt Tryz.prog 160 = some 24 := by kernel_rfl
@[go_sem] theorem Tryz.azero160 : Go.Abs.aZero Tryz.prog 160 = some (1, .agg [.v (.slice none 0 0)]) := by kernel_rfl
@[go_sem] theorem Tryz.zer160 : Go.Abs.zer Tryz.prog 160 = some (.agg [.v (.slice none 0 0)]) := by kernel_rfl
@[go_sem] theorem Tryz.plainSrc160 : Go.Abs.plainSrc Tryz.prog 160 = false := by kernel_rfl
@[go_sem] theorem Tryz.fld160_0 : Go.Abs.fld Tryz.prog 160 0 = some (0, 1, false) := by kernel_rfl
@[go_sem] theorem Tryz.und171 : Go.Abs.und Tryz.prog 171 = .int .u64 := by kernel_rfl
@[go_sem] theorem Tryz.siz171 : Go.Abs.siz Tryz.prog 171 = some 1 := by kernel_rfl
@[go_sem] theorem Tryz.byt171 : Go.Abs.byt Tryz.prog 171 = some 8 := by kernel_rfl
@[go_sem] theorem Tryz.azero171 : Go.Abs.aZero Tryz.prog 171 = some (1, .v (.int .u64 0)) := by kernel_rfl
@[go_sem] theorem Tryz.zer171 : Go.Abs.zer Tryz.prog 171 = some (.v (.int .u64 0)) := by kernel_rfl
@[go_sem] theorem Tryz.plainSrc171 : Go.Abs.plainSrc Tryz.prog 171 = false := by kernel_rfl
@[go_sem] theorem Tryz.und181 : Go.Abs.und Tryz.prog 181 = .slice 220 := by kernel_rfl
@[go_sem] theorem Tryz.siz181 : Go.Abs.siz Tryz.prog 181 = some 1 := by kernel_rfl
@[go_sem] theorem Tryz.byt181 : Go.Abs.byt Tryz.prog 181 = some 24 := by kernel_rfl
@[go_sem] theorem Tryz.azero181 : Go.Abs.aZero Tryz.prog 181 = some (1, .v (.slice none 0 0)) := by kernel_rfl
@[go_sem] theorem Tryz.zer181 : Go.Abs.zer Tryz.prog 181 = some (.v (.slice none 0 0)) := by kernel_rfl
@[go_sem] theorem Tryz.plainSrc181 : Go.Abs.plainSrc Tryz.prog 181 = true := by kernel_rfl
@[go_sem] theorem Tryz.und182 : Go.Abs.und Tryz.prog 182 = .slice 220 := by kernel_rfl
@[go_sem] theorem Tryz.siz182 : Go.Abs.siz Tryz.prog 182 = some 1 := by kernel_rfl
@[go_sem] theorem Tryz.byt182 : Go.Abs.byt Tryz.prog 182 = some 24 := by kernel_rfl
@[go_sem] theorem Tryz.azero182 : Go.Abs.aZero Tryz.prog 182 = some (1, .v (.slice none 0 0)) := by kernel_rfl
@[go_sem] theorem Tryz.zer182 : Go.Abs.zer Tryz.prog 182 = some (.v (.slice none 0 0)) := by kernel_rfl
@[go_sem] theorem Tryz.plainSrc182 : Go.Abs.plainSrc Tryz.prog 182 = true := by kernel_rfl
@[go_sem] theorem Tryz.und188 : Go.Abs.und Tryz.prog 188 = .slice 228 := by kernel_rfl
@[go_sem] theorem Tryz.siz188 : Go.Abs.siz Tryz.prog 188 = some 1 := by kernel_rfl
@[go_sem] theorem Tryz.byt188 : Go.Abs.byt Tryz.prog 188 = some 24 := by kernel_rfl
@[go_sem] theorem Tryz.azero188 : Go.Abs.aZero Tryz.prog 188 = some (1, .v (.slice none 0 0)) := by kernel_rfl
@[go_sem] theorem Tryz.zer188 : Go.Abs.zer Tryz.prog 188 = some (.v (.slice none 0 0)) := by kernel_rfl
@[go_sem] theorem Tryz.plainSrc188 : Go.Abs.plainSrc Tryz.prog 188 = true := by kernel_rfl
@[go_sem] theorem Tryz.und191 : Go.Abs.und Tryz.prog 191 = .struct #[⟨ "cursor", 9, 0, false, "", "skylark/layout", 0⟩, ⟨ "done", 4, 1, false, "", "skylark/layout", 16⟩] := by kernel_rfl
@[go_sem] theorem Tryz.siz191 : Go.Abs.siz Tryz.prog 191 = some 2 := by kernel_rfl
@[go_sem] theorem Tryz.byt191 : Go.Abs.byt Tryz.prog 191 = some 24 := by kernel_rfl
@[go_sem] theorem Tryz.azero191 : Go.Abs.aZero Tryz.prog 191 = some (2, .agg [.v (.string ByteArray.empty), .v (.bool false)]) := by kernel_rfl
@[go_sem] theorem Tryz.zer191 : Go.Abs.zer Tryz.prog 191 = some (.agg [.v (.string ByteArray.empty), .v (.bool false)]) := by kernel_rfl
@[go_sem] theorem Tryz.plainSrc191 : Go.Abs.plainSrc Tryz.prog 191 = false := by kernel_rfl
@[go_sem] theorem Tryz.fld191_0 : Go.Abs.fld Tryz.prog 191 0 = some (0, 1, false) := by kernel_rfl
@[go_sem] theorem Tryz.fld191_1 : Go.Abs.fld Tryz.prog 191 1 = some (1, 1, false) := by kernel_rfl
@[go_sem] theorem Tryz.und192 : Go.Abs.und Tryz.prog 192 = .struct #[⟨ "cursor", 9, 0, false, "", "skylark/layout", 0⟩, ⟨ "done", 4, 1, false, "", "skylark/layout", 16⟩] := by kernel_rfl
@[go_sem] theorem Tryz.siz192 : Go.Abs.siz Tryz.prog 192 = some 2 := by kernel_rfl
@[go_sem] theorem Tryz.byt192 : Go.Abs.byt Tryz.prog 192 = some 24 := by kernel_rfl
@[go_sem] theorem Tryz.azero192 : Go.Abs.aZero Tryz.prog 192 = some (2, .agg [.v (.string ByteArray.empty), .v (.bool false)]) := by kernel_rfl
@[go_sem] theorem Tryz.zer192 : Go.Abs.zer Tryz.prog 192 = some (.agg [.v (.string ByteArray.empty), .v (.bool false)]) := by kernel_rfl
@[go_sem] theorem Tryz.plainSrc192 : Go.Abs.plainSrc Tryz.prog 192 = false := by kernel_rfl
@[go_sem] theorem Tryz.fld192_0 : Go.Abs.fld Tryz.prog 192 0 = some (0, 1, false) := by kernel_rfl
@[go_sem] theorem Tryz.fld192_1 : Go.Abs.fld Tryz.prog 192 1 = some (1, 1, false) := by kernel_rfl
@[go_sem] theorem Tryz.und207 : Go.Abs.und Tryz.prog 207 = .int .u32 := by kernel_rfl
@[go_sem] theorem Tryz.siz207 : Go.Abs.siz Tryz.prog 207 = some 1 := by kernel_rfl
@[go_sem] theorem Tryz.byt207 : Go.Abs.byt Tryz.prog 207 = some 4 := by kernel_rfl
@[go_sem] theorem Tryz.azero207 : Go.Abs.aZero Tryz.prog 207 = some (1, .v (.int .u32 0)) := by kernel_rfl
@[go_sem] theorem Tryz.zer207 : Go.Abs.zer Tryz.prog 207 = some (.v (.int .u32 0)) := by kernel_rfl
@[go_sem] theorem Tryz.plainSrc207 : Go.Abs.plainSrc Tryz.prog 207 = false := by kernel_rfl
@[go_sem] theorem Tryz.und219 : Go.Abs.und Tryz.prog 219 = .struct #[⟨ "at", 60, 0, false, "", "skylark/ring", 0⟩, ⟨ "chain", 3, 1, false, "", "skylark/ring", 8⟩, ⟨ "i", 3, 2, false, "", "skylark/ring", 16⟩] := by kernel_rfl
@[go_sem] theorem Tryz.siz219 : Go.Abs.siz Tryz.prog 219 = some 3 := by kernel_rfl
@[go_sem] theorem Tryz.byt219 : Go.Abs.byt Tryz.prog 219 = some 24 := by kernel_rfl
@[go_sem] theorem Tryz.azero219 : Go.Abs.aZero Tryz.prog 219 = some (3, .agg [.v (.int .u64 0), .v (.int .i64 0), .v (.int .i64 0)]) := by kernel_rfl
@[go_sem] theorem Tryz.zer219 : Go.Abs.zer Tryz.prog 219 = some (.agg [.v (.int .u64 0), .v (.int .i64 0), .v (.int .i64 0)]) := by kernel_rfl
@[go_sem] theorem Tryz.plainSrc219 : Go.Abs.plainSrc Tryz.prog 219 = false := by kernel_rfl
@[go_sem] theorem Tryz.fld219_0 : Go.Abs.fld Tryz.prog 219 0 = some (0, 1, false) := by kernel_rfl
@[go_sem] theorem Tryz.fld219_1 : Go.Abs.fld Tryz.prog 219 1 = some (1, 1, false) := by kernel_rfl
@[go_sem] theorem Tryz.fld219_2 : Go.Abs.fld Tryz.prog 219 2 = some (2, 1, false) := by kernel_rfl
@[go_sem] theorem Tryz.und220 : Go.Abs.und Tryz.prog 220 = .struct #[⟨ "at", 60, 0, false, "", "skylark/ring", 0⟩, ⟨ "chain", 3, 1, false, "", "skylark/ring", 8⟩, ⟨ "i", 3, 2, false, "", "skylark/ring", 16⟩] := by kernel_rfl
@[go_sem] theorem Tryz.siz220 : Go.Abs.siz Tryz.prog 220 = some 3 := by kernel_rfl
@[go_sem] theorem Tryz.byt220 : Go.Abs.byt Tryz.prog 220 = some 24 := by kernel_rfl
@[go_sem] theorem Tryz.azero220 : Go.Abs.aZero Tryz.prog 220 = some (3, .agg [.v (.int .u64 0), .v (.int .i64 0), .v (.int .i64 0)]) := by kernel_rfl
@[go_sem] theorem Tryz.zer220 : Go.Abs.zer Tryz.prog 220 = some (.agg [.v (.int .u64 0), .v (.int .i64 0), .v (.int .i64 0)]) := by kernel_rfl
@[go_sem] theorem Tryz.plainSrc220 : Go.Abs.plainSrc Tryz.prog 220 = false := by kernel_rfl
@[go_sem] theorem Tryz.fld220_0 : Go.Abs.fld Tryz.prog 220 0 = some (0, 1, false) := by kernel_rfl
@[go_sem] theorem Tryz.fld220_1 : Go.Abs.fld Tryz.prog 220 1 = some (1, 1, false) := by kernel_rfl
@[go_sem] theorem Tryz.fld220_2 : Go.Abs.fld Tryz.prog 220 2 = some (2, 1, false) := by kernel_rfl
@[go_sem] theorem Tryz.und227 : Go.Abs.und Tryz.prog 227 = .struct #[⟨ "At", 60, 0, false, "", "", 0⟩, ⟨ "Chain", 3, 1, false, "", "", 8⟩] := by kernel_rfl
@[go_sem] theorem Tryz.siz227 : Go.Abs.siz Tryz.prog 227 = some 2 := by kernel_rfl
@[go_sem] theorem Tryz.byt227 : Go.Abs.byt Tryz.prog 227 = some 16 := by kernel_rfl
@[go_sem] theorem Tryz.azero227 : Go.Abs.aZero Tryz.prog 227 = some (2, .agg [.v (.int .u64 0), .v (.int .i64 0)]) := by kernel_rfl
@[go_sem] theorem Tryz.zer227 : Go.Abs.zer Tryz.prog 227 = some (.agg [.v (.int .u64 0), .v (.int .i64 0)]) := by kernel_rfl
@[go_sem] theorem Tryz.plainSrc227 : Go.Abs.plainSrc Tryz.prog 227 = false := by kernel_rfl
@[go_sem] theorem Tryz.fld227_0 : Go.Abs.fld Tryz.prog 227 0 = some (0, 1, false) := by kernel_rfl
@[go_sem] theorem Tryz.fld227_1 : Go.Abs.fld Tryz.prog 227 1 = some (1, 1, false) := by kernel_rfl
@[go_sem] theorem Tryz.und228 : Go.Abs.und Tryz.prog 228 = .struct #[⟨ "At", 60, 0, false, "", "", 0⟩, ⟨ "Chain", 3, 1, false, "", "", 8⟩] := by kernel_rfl
@[go_sem] theorem Tryz.siz228 : Go.Abs.siz Tryz.prog 228 = some 2 := by kernel_rfl
@[go_sem] theorem Tryz.byt228 : Go.Abs.byt Tryz.prog 228 = some 16 := by kernel_rfl
@[go_sem] theorem Tryz.azero228 : Go.Abs.aZero Tryz.prog 228 = some (2, .agg [.v (.int .u64 0), .v (.int .i64 0)]) := by kernel_rfl
@[go_sem] theorem Tryz.zer228 : Go.Abs.zer Tryz.prog 228 = some (.agg [.v (.int .u64 0), .v (.int .i64 0)]) := by kernel_rfl
@[go_sem] theorem Tryz.plainSrc228 : Go.Abs.plainSrc Tryz.prog 228 = false := by kernel_rfl
@[go_sem] theorem Tryz.fld228_0 : Go.Abs.fld Tryz.prog 228 0 = some (0, 1, false) := by kernel_rfl
@[go_sem] theorem Tryz.fld228_1 : Go.Abs.fld Tryz.prog 228 1 = some (1, 1, false) := by kernel_rfl
@[go_sem] theorem Tryz.und240 : Go.Abs.und Tryz.prog 240 = .slice 5 := by kernel_rfl
@[go_sem] theorem Tryz.siz240 : Go.Abs.siz Tryz.prog 240 = some 1 := by kernel_rfl
@[go_sem] theorem Tryz.byt240 : Go.Abs.byt Tryz.prog 240 = some 24 := by kernel_rfl
@[go_sem] theorem Tryz.azero240 : Go.Abs.aZero Tryz.prog 240 = some (1, .v (.slice none 0 0)) := by kernel_rfl
@[go_sem] theorem Tryz.zer240 : Go.Abs.zer Tryz.prog 240 = some (.v (.slice none 0 0)) := by kernel_rfl
@[go_sem] theorem Tryz.plainSrc240 : Go.Abs.plainSrc Tryz.prog 240 = true := by kernel_rfl
@[go_sem] theorem Tryz.und241 : Go.Abs.und Tryz.prog 241 = .slice 24 := by kernel_rfl
@[go_sem] theorem Tryz.siz241 : Go.Abs.siz Tryz.prog 241 = some 1 := by kernel_rfl
@[go_sem] theorem Tryz.byt241 : Go.Abs.byt Tryz.prog 241 = some 24 := by kernel_rfl
@[go_sem] theorem Tryz.azero241 : Go.Abs.aZero Tryz.prog 241 = some (1, .v (.slice none 0 0)) := by kernel_rfl
@[go_sem] theorem Tryz.zer241 : Go.Abs.zer Tryz.prog 241 = some (.v (.slice none 0 0)) := by kernel_rfl
@[go_sem] theorem Tryz.plainSrc241 : Go.Abs.plainSrc Tryz.prog 241 = true := by kernel_rfl
@[go_sem] theorem Tryz.und246 : Go.Abs.und Tryz.prog 246 = .array 24 5 := by kernel_rfl
@[go_sem] theorem Tryz.siz246 : Go.Abs.siz Tryz.prog 246 = some 24 := by kernel_rfl
@[go_sem] theorem Tryz.byt246 : Go.Abs.byt Tryz.prog 246 = some 24 := by kernel_rfl
@[go_sem] theorem Tryz.azero246 : Go.Abs.aZero Tryz.prog 246 = some (24, .agg [.v (.int .u8 0), .v (.int .u8 0), .v (.int .u8 0), .v (.int .u8 0), .v (.int .u8 0), .v (.int .u8 0), .v (.int .u8 0), .v (.int .u8 0), .v (.int .u8 0), .v (.int .u8 0), .v (.int .u8 0), .v (.int .u8 0), .v (.int .u8 0), .v (.int .u8 0), .v (.int .u8 0), .v (.int .u8 0), .v (.int .u8 0), .v (.int .u8 0), .v (.int .u8 0), .v (.int .u8 0), .v (.int .u8 0), .v (.int .u8 0), .v (.int .u8 0), .v (.int .u8 0)]) := by kernel_rfl
@[go_sem] theorem Tryz.zer246 : Go.Abs.zer Tryz.prog 246 = some (.agg [.v (.int .u8 0), .v (.int .u8 0), .v (.int .u8 0), .v (.int .u8 0), .v (.int .u8 0), .v (.int .u8 0), .v (.int .u8 0), .v (.int .u8 0), .v (.int .u8 0), .v (.int .u8 0), .v (.int .u8 0), .v (.int .u8 0), .v (.int .u8 0), .v (.int .u8 0), .v (.int .u8 0), .v (.int .u8 0), .v (.int .u8 0), .v (.int .u8 0), .v (.int .u8 0), .v (.int .u8 0), .v (.int .u8 0), .v (.int .u8 0), .v (.int .u8 0), .v (.int .u8 0)]) := by kernel_rfl
@[go_sem] theorem Tryz.plainSrc246 : Go.Abs.plainSrc Tryz.prog 246 = false := by kernel_rfl
@[go_sem] theorem Tryz.und252 : Go.Abs.und Tryz.prog 252 = .int .i64 := by kernel_rfl
@[go_sem] theorem Tryz.siz252 : Go.Abs.siz Tryz.prog 252 = some 1 := by kernel_rfl
@[go_sem] theorem Tryz.byt252 : Go.Abs.byt Tryz.prog 252 = some 8 := by kernel_rfl
@[go_sem] theorem Tryz.azero252 : Go.Abs.aZero Tryz.prog 252 = some (1, .v (.int .i64 0)) := by kernel_rfl
@[go_sem] theorem Tryz.zer252 : Go.Abs.zer Tryz.prog 252 = some (.v (.int .i64 0)) := by kernel_rfl
@[go_sem] theorem Tryz.plainSrc252 : Go.Abs.plainSrc Tryz.prog 252 = false := by kernel_rfl
@[go_sem] theorem Tryz.und261 : Go.Abs.und Tryz.prog 261 = .array 20 60 := by kernel_rfl
@[go_sem] theorem Tryz.siz261 : Go.Abs.siz Tryz.prog 261 = some 20 := by kernel_rfl
@[go_sem] theorem Tryz.byt261 : Go.Abs.byt Tryz.prog 261 = some 160 := by kernel_rfl
@[go_sem] theorem Tryz.azero261 : Go.Abs.aZero Tryz.prog 261 = some (20, .agg [.v (.int .u64 0), .v (.int .u64 0), .v (.int .u64 0), .v (.int .u64 0), .v (.int .u64 0), .v (.int .u64 0), .v (.int .u64 0), .v (.int .u64 0), .v (.int .u64 0), .v (.int .u64 0), .v (.int .u64 0), .v (.int .u64 0), .v (.int .u64 0), .v (.int .u64 0), .v (.int .u64 0), .v (.int .u64 0), .v (.int .u64 0), .v (.int .u64 0), .v (.int .u64 0), .v (.int .u64 0)]) := by kernel_rfl
@[go_sem] theorem Tryz.zer261 : Go.Abs.zer Tryz.prog 261 = some (.agg [.v (.int .u64 0), .v (.int .u64 0), .v (.int .u64 0), .v (.int .u64 0), .v (.int .u64 0), .v (.int .u64 0), .v (.int .u64 0), .v (.int .u64 0), .v (.int .u64 0), .v (.int .u64 0), .v (.int .u64 0), .v (.int .u64 0), .v (.int .u64 0), .v (.int .u64 0), .v (.int .u64 0), .v (.int .u64 0), .v (.int .u64 0), .v (.int .u64 0), .v (.int .u64 0), .v (.int .u64 0)]) := by kernel_rfl
@[go_sem] theorem Tryz.plainSrc261 : Go.Abs.plainSrc Tryz.prog 261 = false := by kernel_rfl
@[go_sem] theorem Tryz.und262 : Go.Abs.und Tryz.prog 262 = .array 65 5 := by kernel_rfl
@[go_sem] theorem Tryz.siz262 : Go.Abs.siz Tryz.prog 262 = some 65 := by kernel_rfl
@[go_sem] theorem Tryz.byt262 : Go.Abs.byt Tryz.prog 262 = some 65 := by kernel_rfl
@[go_sem] theorem Tryz.azero262 : Go.Abs.aZero Tryz.prog 262 = some (65, .agg [.v (.int .u8 0), .v (.int .u8 0), .v (.int .u8 0), .v (.int .u8 0), .v (.int .u8 0), .v (.int .u8 0), .v (.int .u8 0), .v (.int .u8 0), .v (.int .u8 0), .v (.int .u8 0), .v (.int .u8 0), .v (.int .u8 0), .v (.int .u8 0), .v (.int .u8 0), .v (.int .u8 0), .v (.int .u8 0), .v (.int .u8 0), .v (.int .u8 0), .v (.int .u8 0), .v (.int .u8 0), .v (.int .u8 0), .v (.int .u8 0), .v (.int .u8 0), .v (.int .u8 0), .v (.int .u8 0), .v (.int .u8 0), .v (.int .u8 0), .v (.int .u8 0), .v (.int .u8 0), .v (.int .u8 0), .v (.int .u8 0), .v (.int .u8 0), .v (.int .u8 0), .v (.int .u8 0), .v (.int .u8 0), .v (.int .u8 0), .v (.int .u8 0), .v (.int .u8 0), .v (.int .u8 0), .v (.int .u8 0), .v (.int .u8 0), .v (.int .u8 0), .v (.int .u8 0), .v (.int .u8 0), .v (.int .u8 0), .v (.int .u8 0), .v (.int .u8 0), .v (.int .u8 0), .v (.int .u8 0), .v (.int .u8 0), .v (.int .u8 0), .v (.int .u8 0), .v (.int .u8 0), .v (.int .u8 0), .v (.int .u8 0), .v (.int .u8 0), .v (.int .u8 0), .v (.int .u8 0), .v (.int .u8 0), .v (.int .u8 0), .v (.int .u8 0), .v (.int .u8 0), .v (.int .u8 0), .v (.int .u8 0), .v (.int .u8 0)]) := by kernel_rfl
@[go_sem] theorem Tryz.zer262 : Go.Abs.zer Tryz.prog 262 = some (.agg [.v (.int .u8 0), .v (.int .u8 0), .v (.int .u8 0), .v (.int .u8 0), .v (.int .u8 0), .v (.int .u8 0), .v (.int .u8 0), .v (.int .u8 0), .v (.int .u8 0), .v (.int .u8 0), .v (.int .u8 0), .v (.int .u8 0), .v (.int .u8 0), .v (.int .u8 0), .v (.int .u8 0), .v (.int .u8 0), .v (.int .u8 0), .v (.int .u8 0), .v (.int .u8 0), .v (.int .u8 0), .v (.int .u8 0), .v (.int .u8 0), .v (.int .u8 0), .v (.int .u8 0), .v (.int .u8 0), .v (.int .u8 0), .v (.int .u8 0), .v (.int .u8 0), .v (.int .u8 0), .v (.int .u8 0), .v (.int .u8 0), .v (.int .u8 0), .v (.int .u8 0), .v (.int .u8 0), .v (.int .u8 0), .v (.int .u8 0), .v (.int .u8 0), .v (.int .u8 0), .v (.int .u8 0), .v (.int .u8 0), .v (.int .u8 0), .v (.int .u8 0), .v (.int .u8 0), .v (.int .u8 0), .v (.int .u8 0), .v (.int .u8 0), .v (.int .u8 0), .v (.int .u8 0), .v (.int .u8 0), .v (.int .u8 0), .v (.int .u8 0), .v (.int .u8 0), .v (.int .u8 0), .v (.int .u8 0), .v (.int .u8 0), .v (.int .u8 0), .v (.int .u8 0), .v (.int .u8 0), .v (.int .u8 0), .v (.int .u8 0), .v (.int .u8 0), .v (.int .u8 0), .v (.int .u8 0), .v (.int .u8 0), .v (.int .u8 0)]) := by kernel_rfl
@[go_sem] theorem Tryz.plainSrc262 : Go.Abs.plainSrc Tryz.prog 262 = false := by kernel_rfl
@[go_sem] theorem Tryz.und263 : Go.Abs.und Tryz.prog 263 = .int .u64 := by kernel_rfl
@[go_sem] theorem Tryz.siz263 : Go.Abs.siz Tryz.prog 263 = some 1 := by kernel_rfl
@[go_sem] theorem Tryz.byt263 : Go.Abs.byt Tryz.prog 263 = some 8 := by kernel_rfl
@[go_sem] theorem Tryz.azero263 : Go.Abs.aZero Tryz.prog 263 = some (1, .v (.int .u64 0)) := by kernel_rfl
@[go_sem] theorem Tryz.zer263 : Go.Abs.zer Tryz.prog 263 = some (.v (.int .u64 0)) := by kernel_rfl
@[go_sem] theorem Tryz.plainSrc263 : Go.Abs.plainSrc Tryz.prog 263 = false := by kernel_rfl
@[go_sem] theorem Tryz.und267 : Go.Abs.und Tryz.prog 267 = .pointer 3 := by kernel_rfl
@[go_sem] theorem Tryz.siz267 : Go.Abs.siz Tryz.prog 267 = some 1 := by kernel_rfl
@[go_sem] theorem Tryz.byt267 : Go.Abs.byt Tryz.prog 267 = some 8 := by kernel_rfl
@[go_sem] theorem Tryz.azero267 : Go.Abs.aZero Tryz.prog 267 = some (1, .v (.pointer none)) := by kernel_rfl
@[go_sem] theorem Tryz.zer267 : Go.Abs.zer Tryz.prog 267 = some (.v (.pointer none)) := by kernel_rfl
@[go_sem] theorem Tryz.plainSrc267 : Go.Abs.plainSrc Tryz.prog 267 = false := by kernel_rfl
@[go_sem] theorem Tryz.und269 : Go.Abs.und Tryz.prog 269 = .pointer 263 := by kernel_rfl
@[go_sem] theorem Tryz.siz269 : Go.Abs.siz Tryz.prog 269 = some 1 := by kernel_rfl
@[go_sem] theorem Tryz.byt269 : Go.Abs.byt Tryz.prog 269 = some 8 := by kernel_rfl
@[go_sem] theorem Tryz.azero269 : Go.Abs.aZero Tryz.prog 269 = some (1, .v (.pointer none)) := by kernel_rfl
@[go_sem] theorem Tryz.zer269 : Go.Abs.zer Tryz.prog 269 = some (.v (.pointer none)) := by kernel_rfl
@[go_sem] theorem Tryz.plainSrc269 : Go.Abs.plainSrc Tryz.prog 269 = false := by kernel_rfl
@[go_sem] theorem Tryz.und271 : Go.Abs.und Tryz.prog 271 = .array 32 5 := by kernel_rfl
@[go_sem] theorem Tryz.siz271 : Go.Abs.siz Tryz.prog 271 = some 32 := by kernel_rfl
@[go_sem] theorem Tryz.byt271 : Go.Abs.byt Tryz.prog 271 = some 32 := by kernel_rfl
@[go_sem] theorem Tryz.azero271 : Go.Abs.aZero Tryz.prog 271 = some (32, .agg [.v (.int .u8 0), .v (.int .u8 0), .v (.int .u8 0), .v (.int .u8 0), .v (.int .u8 0), .v (.int .u8 0), .v (.int .u8 0), .v (.int .u8 0), .v (.int .u8 0), .v (.int .u8 0), .v (.int .u8 0), .v (.int .u8 0), .v (.int .u8 0), .v (.int .u8 0), .v (.int .u8 0), .v (.int .u8 0), .v (.int .u8 0), .v (.int .u8 0), .v (.int .u8 0), .v (.int .u8 0), .v (.int .u8 0), .v (.int .u8 0), .v (.int .u8 0), .v (.int .u8 0), .v (.int .u8 0), .v (.int .u8 0), .v (.int .u8 0), .v (.int .u8 0), .v (.int .u8 0), .v (.int .u8 0), .v (.int .u8 0), .v (.int .u8 0)]) := by kernel_rfl
@[go_sem] theorem Tryz.zer271 : Go.Abs.zer Tryz.prog 271 = some (.agg [.v (.int .u8 0), .v (.int .u8 0), .v (.int .u8 0), .v (.int .u8 0), .v (.int .u8 0), .v (.int .u8 0), .v (.int .u8 0), .v (.int .u8 0), .v (.int .u8 0), .v (.int .u8 0), .v (.int .u8 0), .v (.int .u8 0), .v (.int .u8 0), .v (.int .u8 0), .v (.int .u8 0), .v (.int .u8 0), .v (.int .u8 0), .v (.int .u8 0), .v (.int .u8 0), .v (.int .u8 0), .v (.int .u8 0), .v (.int .u8 0), .v (.int .u8 0), .v (.int .u8 0), .v (.int .u8 0), .v (.int .u8 0), .v (.int .u8 0), .v (.int .u8 0), .v (.int .u8 0), .v (.int .u8 0), .v (.int .u8 0), .v (.int .u8 0)]) := by kernel_rfl
@[go_sem] theorem Tryz.plainSrc271 : Go.Abs.plainSrc Tryz.prog 271 = false := by kernel_rfl
@[go_sem] theorem Tryz.und272 : Go.Abs.und Tryz.prog 272 = .array 64 5 := by kernel_rfl
@[go_sem] theorem Tryz.siz272 : Go.Abs.siz Tryz.prog 272 = some 64 := by kernel_rfl
@[go_sem] theorem Tryz.byt272 : Go.Abs.byt Tryz.prog 272 = some 64 := by kernel_rfl
@[go_sem] theorem Tryz.azero272 : Go.Abs.aZero Tryz.prog 272 = some (64, .agg [.v (.int .u8 0), .v (.int .u8 0), .v (.int .u8 0), .v (.int .u8 0), .v (.int .u8 0), .v (.int .u8 0), .v (.int .u8 0), .v (.int .u8 0), .v (.int .u8 0), .v (.int .u8 0), .v (.int .u8 0), .v (.int .u8 0), .v (.int .u8 0), .v (.int .u8 0), .v (.int .u8 0), .v (.int .u8 0), .v (.int .u8 0), .v (.int .u8 0), .v (.int .u8 0), .v (.int .u8 0), .v (.int .u8 0), .v (.int .u8 0), .v (.int .u8 0), .v (.int .u8 0), .v (.int .u8 0), .v (.int .u8 0), .v (.int .u8 0), .v (.int .u8 0), .v (.int .u8 0), .v (.int .u8 0), .v (.int .u8 0), .v (.int .u8 0), .v (.int .u8 0), .v (.int .u8 0), .v (.int .u8 0), .v (.int .u8 0), .v (.int .u8 0), .v (.int .u8 0), .v (.int .u8 0), .v (.int .u8 0), .v (.int .u8 0), .v (.int .u8 0), .v (.int .u8 0), .v (.int .u8 0), .v (.int .u8 0), .v (.int .u8 0), .v (.int .u8 0), .v (.int .u8 0), .v (.int .u8 0), .v (.int .u8 0), .v (.int .u8 0), .v (.int .u8 0), .v (.int .u8 0), .v (.int .u8 0), .v (.int .u8 0), .v (.int .u8 0), .v (.int .u8 0), .v (.int .u8 0), .v (.int .u8 0), .v (.int .u8 0), .v (.int .u8 0), .v (.int .u8 0), .v (.int .u8 0), .v (.int .u8 0)]) := by kernel_rfl
@[go_sem] theorem Tryz.zer272 : Go.Abs.zer Tryz.prog 272 = some (.agg [.v (.int .u8 0), .v (.int .u8 0), .v (.int .u8 0), .v (.int .u8 0), .v (.int .u8 0), .v (.int .u8 0), .v (.int .u8 0), .v (.int .u8 0), .v (.int .u8 0), .v (.int .u8 0), .v (.int .u8 0), .v (.int .u8 0), .v (.int .u8 0), .v (.int .u8 0), .v (.int .u8 0), .v (.int .u8 0), .v (.int .u8 0), .v (.int .u8 0), .v (.int .u8 0), .v (.int .u8 0), .v (.int .u8 0), .v (.int .u8 0), .v (.int .u8 0), .v (.int .u8 0), .v (.int .u8 0), .v (.int .u8 0), .v (.int .u8 0), .v (.int .u8 0), .v (.int .u8 0), .v (.int .u8 0), .v (.int .u8 0), .v (.int .u8 0), .v (.int .u8 0), .v (.int .u8 0), .v (.int .u8 0), .v (.int .u8 0), .v (.int .u8 0), .v (.int .u8 0), .v (.int .u8 0), .v (.int .u8 0), .v (.int .u8 0), .v (.int .u8 0), .v (.int .u8 0), .v (.int .u8 0), .v (.int .u8 0), .v (.int .u8 0), .v (.int .u8 0), .v (.int .u8 0), .v (.int .u8 0), .v (.int .u8 0), .v (.int .u8 0), .v (.int .u8 0), .v (.int .u8 0), .v (.int .u8 0), .v (.int .u8 0), .v (.int .u8 0), .v (.int .u8 0), .v (.int .u8 0), .v (.int .u8 0), .v (.int .u8 0), .v (.int .u8 0), .v (.int .u8 0), .v (.int .u8 0), .v (.int .u8 0)]) := by kernel_rfl
@[go_sem] theorem Tryz.plainSrc272 : Go.Abs.plainSrc Tryz.prog 272 = false := by kernel_rfl
@[go_sem] theorem Tryz.und274 : Go.Abs.und Tryz.prog 274 = .struct #[⟨ "_interface", 17, 0, false, "", "runtime", 0⟩, ⟨ "concrete", 17, 1, false, "", "runtime", 8⟩, ⟨ "asserted", 17, 2, false, "", "runtime", 16⟩, ⟨ "missingMethod", 9, 3, false, "", "runtime", 24⟩] := by kernel_rfl
@[go_sem] theorem Tryz.siz274 : Go.Abs.siz Tryz.prog 274 = some 4 := by kernel_rfl
@[go_sem] theorem Tryz.byt274 : Go.Abs.byt Tryz.prog 274 = some 40 := by kernel_rfl
@[go_sem] theorem Tryz.azero274 : Go.Abs.aZero Tryz.prog 274 = some (4, .agg [.v (.pointer none), .v (.pointer none), .v (.pointer none), .v (.string ByteArray.empty)]) := by kernel_rfl
@[go_sem] theorem Tryz.zer274 : Go.Abs.zer Tryz.prog 274 = some (.agg [.v (.pointer none), .v (.pointer none), .v (.pointer none), .v (.string ByteArray.empty)]) := by kernel_rfl
@[go_sem] theorem Tryz.plainSrc274 : Go.Abs.plainSrc Tryz.prog 274 = false := by kernel_rfl
@[go_sem] theorem Tryz.fld274_0 : Go.Abs.fld Tryz.prog 274 0 = some (0, 1, false) := by kernel_rfl
@[go_sem] theorem Tryz.fld274_1 : Go.Abs.fld Tryz.prog 274 1 = some (1, 1, false) := by kernel_rfl
@[go_sem] theorem Tryz.fld274_2 : Go.Abs.fld Tryz.prog 274 2 = some (2, 1, false) := by kernel_rfl
@[go_sem] theorem Tryz.fld274_3 : Go.Abs.fld Tryz.prog 274 3 = some (3, 1, false) := by kernel_rfl
@[go_sem] theorem Tryz.und275 : Go.Abs.und Tryz.prog 275 = .struct #[⟨ "_interface", 17, 0, false, "", "runtime", 0⟩, ⟨ "concrete", 17, 1, false, "", "runtime", 8⟩, ⟨ "asserted", 17, 2, false, "", "runtime", 16⟩, ⟨ "missingMethod", 9, 3, false, "", "runtime", 24⟩] := by kernel_rfl
@[go_sem] theorem Tryz.siz275 : Go.Abs.siz Tryz.prog 275 = some 4 := by kernel_rfl
@[go_sem] theorem Tryz.byt275 : Go.Abs.byt Tryz.prog 275 = some 40 := by kernel_rfl
@[go_sem] theorem Tryz.azero275 : Go.Abs.aZero Tryz.prog 275 = some (4, .agg [.v (.pointer none), .v (.pointer none), .v (.pointer none), .v (.string ByteArray.empty)]) := by kernel_rfl
@[go_sem] theorem Tryz.zer275 : Go.Abs.zer Tryz.prog 275 = some (.agg [.v (.pointer none), .v (.pointer none), .v (.pointer none), .v (.string ByteArray.empty)]) := by kernel_rfl
@[go_sem] theorem Tryz.plainSrc275 : Go.Abs.plainSrc Tryz.prog 275 = false := by kernel_rfl
@[go_sem] theorem Tryz.fld275_0 : Go.Abs.fld Tryz.prog 275 0 = some (0, 1, false) := by kernel_rfl
@[go_sem] theorem Tryz.fld275_1 : Go.Abs.fld Tryz.prog 275 1 = some (1, 1, false) := by kernel_rfl
@[go_sem] theorem Tryz.fld275_2 : Go.Abs.fld Tryz.prog 275 2 = some (2, 1, false) := by kernel_rfl
@[go_sem] theorem Tryz.fld275_3 : Go.Abs.fld Tryz.prog 275 3 = some (3, 1, false) := by kernel_rfl
@[go_sem] theorem Tryz.und276 : Go.Abs.und Tryz.prog 276 = .array 0 16 := by kernel_rfl
@[go_sem] theorem Tryz.siz276 : Go.Abs.siz Tryz.prog 276 = some 0 := by kernel_rfl
@[go_sem] theorem Tryz.byt276 : Go.Abs.byt Tryz.prog 276 = some 0 := by kernel_rfl
@[go_sem] theorem Tryz.azero276 : Go.Abs.aZero Tryz.prog 276 = some (0, .agg []) := by kernel_rfl
@[go_sem] theorem Tryz.zer276 : Go.Abs.zer Tryz.prog 276 = some (.agg []) := by kernel_rfl
@[go_sem] theorem Tryz.plainSrc276 : Go.Abs.plainSrc Tryz.prog 276 = false := by kernel_rfl
@[go_sem] theorem Tryz.und277 : Go.Abs.und Tryz.prog 277 = .struct #[⟨ "_", 276, 0, false, "", "runtime", 0⟩] := by kernel_rfl
@[go_sem] theorem Tryz.siz277 : Go.Abs.siz Tryz.prog 277 = some 0 := by kernel_rfl
@[go_sem] theorem Tryz.byt277 : Go.Abs.byt Tryz.prog 277 = some 0 := by kernel_rfl
@[go_sem] theorem Tryz.azero277 : Go.Abs.aZero Tryz.prog 277 = some (0, .agg []) := by kernel_rfl
@[go_sem] theorem Tryz.zer277 : Go.Abs.zer Tryz.prog 277 = some (.agg []) := by kernel_rfl
@[go_sem] theorem Tryz.plainSrc277 : Go.Abs.plainSrc Tryz.prog 277 = false := by kernel_rfl
@[go_sem] theorem Tryz.fld277_0 : Go.Abs.fld Tryz.prog 277 0 = some (0, 0, true) := by kernel_rfl
@[go_sem] theorem Tryz.und278 : Go.Abs.und Tryz.prog 278 = .struct #[⟨ "_", 276, 0, false, "", "runtime", 0⟩] := by kernel_rfl
@[go_sem] theorem Tryz.siz278 : Go.Abs.siz Tryz.prog 278 = some 0 := by kernel_rfl
@[go_sem] theorem Tryz.byt278 : Go.Abs.byt Tryz.prog 278 = some 0 := by kernel_rfl
@[go_sem] theorem Tryz.azero278 : Go.Abs.aZero Tryz.prog 278 = some (0, .agg []) := by kernel_rfl
@[go_sem] theorem Tryz.zer278 : Go.Abs.zer Tryz.prog 278 = some (.agg []) := by kernel_rfl
@[go_sem] theorem Tryz.plainSrc278 : Go.Abs.plainSrc Tryz.prog 278 = false := by kernel_rfl
@[go_sem] theorem Tryz.fld278_0 : Go.Abs.fld Tryz.prog 278 0 = some (0, 0, true) := by kernel_rfl
@[go_sem] theorem Tryz.und279 : Go.Abs.und Tryz.prog 279 = .int .u8 := by kernel_rfl
@[go_sem] theorem Tryz.siz279 : Go.Abs.siz Tryz.prog 279 = some 1 := by kernel_rfl
@[go_sem] theorem Tryz.byt279 : Go.Abs.byt Tryz.prog 279 = some 1 := by kernel_rfl
@[go_sem] theorem Tryz.azero279 : Go.Abs.aZero Tryz.prog 279 = some (1, .v (.int .u8 0)) := by kernel_rfl
@[go_sem] theorem Tryz.zer279 : Go.Abs.zer Tryz.prog 279 = some (.v (.int .u8 0)) := by kernel_rfl
@[go_sem] theorem Tryz.plainSrc279 : Go.Abs.plainSrc Tryz.prog 279 = false := by kernel_rfl
@[go_sem] theorem Tryz.und280 : Go.Abs.und Tryz.prog 280 = .int .u8 := by kernel_rfl
@[go_sem] theorem Tryz.siz280 : Go.Abs.siz Tryz.prog 280 = some 1 := by kernel_rfl
@[go_sem] theorem Tryz.byt280 : Go.Abs.byt Tryz.prog 280 = some 1 := by kernel_rfl
@[go_sem] theorem Tryz.azero280 : Go.Abs.aZero Tryz.prog 280 = some (1, .v (.int .u8 0)) := by kernel_rfl
@[go_sem] theorem Tryz.zer280 : Go.Abs.zer Tryz.prog 280 = some (.v (.int .u8 0)) := by kernel_rfl
@[go_sem] theorem Tryz.plainSrc280 : Go.Abs.plainSrc Tryz.prog 280 = false := by kernel_rfl
@[go_sem] theorem Tryz.und282 : Go.Abs.und Tryz.prog 282 = .pointer 5 := by kernel_rfl
@[go_sem] theorem Tryz.siz282 : Go.Abs.siz Tryz.prog 282 = some 1 := by kernel_rfl
@[go_sem] theorem Tryz.byt282 : Go.Abs.byt Tryz.prog 282 = some 8 := by kernel_rfl
@[go_sem] theorem Tryz.azero282 : Go.Abs.aZero Tryz.prog 282 = some (1, .v (.pointer none)) := by kernel_rfl
@[go_sem] theorem Tryz.zer282 : Go.Abs.zer Tryz.prog 282 = some (.v (.pointer none)) := by kernel_rfl
@[go_sem] theorem Tryz.plainSrc282 : Go.Abs.plainSrc Tryz.prog 282 = false := by kernel_rfl
@[go_sem] theorem Tryz.und283 : Go.Abs.und Tryz.prog 283 = .int .i32 := by kernel_rfl
@[go_sem] theorem Tryz.siz283 : Go.Abs.siz Tryz.prog 283 = some 1 := by kernel_rfl
@[go_sem] theorem Tryz.byt283 : Go.Abs.byt Tryz.prog 283 = some 4 := by kernel_rfl
@[go_sem] theorem Tryz.azero283 : Go.Abs.aZero Tryz.prog 283 = some (1, .v (.int .i32 0)) := by kernel_rfl
@[go_sem] theorem Tryz.zer283 : Go.Abs.zer Tryz.prog 283 = some (.v (.int .i32 0)) := by kernel_rfl
@[go_sem] theorem Tryz.plainSrc283 : Go.Abs.plainSrc Tryz.prog 283 = false := by kernel_rfl
@[go_sem] theorem Tryz.und284 : Go.Abs.und Tryz.prog 284 = .int .i32 := by kernel_rfl
@[go_sem] theorem Tryz.siz284 : Go.Abs.siz Tryz.prog 284 = some 1 := by kernel_rfl
@[go_sem] theorem Tryz.byt284 : Go.Abs.byt Tryz.prog 284 = some 4 := by kernel_rfl
@[go_sem] theorem Tryz.azero284 : Go.Abs.aZero Tryz.prog 284 = some (1, .v (.int .i32 0)) := by kernel_rfl
@[go_sem] theorem Tryz.zer284 : Go.Abs.zer Tryz.prog 284 = some (.v (.int .i32 0)) := by kernel_rfl
@[go_sem] theorem Tryz.plainSrc284 : Go.Abs.plainSrc Tryz.prog 284 = false := by kernel_rfl
@[go_sem] theorem Tryz.und285 : Go.Abs.und Tryz.prog 285 = .struct #[⟨ "Size_", 12, 0, false, "", "", 0⟩, ⟨ "PtrBytes", 12, 1, false, "", "", 8⟩, ⟨ "Hash", 207, 2, false, "", "", 16⟩, ⟨ "TFlag", 279, 3, false, "", "", 20⟩, ⟨ "Align_", 5, 4, false, "", "", 21⟩, ⟨ "FieldAlign_", 5, 5, false, "", "", 22⟩, ⟨ "Kind_", 280, 6, false, "", "", 23⟩, ⟨ "Equal", 281, 7, false, "", "", 24⟩, ⟨ "GCData", 282, 8, false, "", "", 32⟩, ⟨ "Str", 283, 9, false, "", "", 40⟩, ⟨ "PtrToThis", 284, 10, false, "", "", 44⟩] := by kernel_rfl
@[go_sem] theorem Tryz.siz285 : Go.Abs.siz Tryz.prog 285 = some 11 := by kernel_rfl
@[go_sem] theorem Tryz.byt285 : Go.Abs.byt Tryz.prog 285 = some 48 := by kernel_rfl
@[go_sem] theorem Tryz.azero285 : Go.Abs.aZero Tryz.prog 285 = some (11, .agg [.v (.int .u64 0), .v (.int .u64 0), .v (.int .u32 0), .v (.int .u8 0), .v (.int .u8 0), .v (.int .u8 0), .v (.int .u8 0), .v (.nilFunc), .v (.pointer none), .v (.int .i32 0), .v (.int .i32 0)]) := by kernel_rfl
@[go_sem] theorem Tryz.zer285 : Go.Abs.zer Tryz.prog 285 = some (.agg [.v (.int .u64 0), .v (.int .u64 0), .v (.int .u32 0), .v (.int .u8 0), .v (.int .u8 0), .v (.int .u8 0), .v (.int .u8 0), .v (.nilFunc), .v (.pointer none), .v (.int .i32 0), .v (.int .i32 0)]) := by kernel_rfl
@[go_sem] theorem Tryz.plainSrc285 : Go.Abs.plainSrc Tryz.prog 285 = false := by kernel_rfl
@[go_sem] theorem Tryz.fld285_0 : Go.Abs.fld Tryz.prog 285 0 = some (0, 1, false) := by kernel_rfl
@[go_sem] theorem Tryz.fld285_1 : Go.Abs.fld Tryz.prog 285 1 = some (1, 1, false) := by kernel_rfl
@[go_sem] theorem Tryz.fld285_2 : Go.Abs.fld Tryz.prog 285 2 = some (2, 1, false) := by kernel_rfl
@[go_sem] theorem Tryz.fld285_3 : Go.Abs.fld Tryz.prog 285 3 = some (3, 1, false) := by kernel_rfl
@[go_sem] theorem Tryz.fld285_4 : Go.Abs.fld Tryz.prog 285 4 = some (4, 1, false) := by kernel_rfl
@[go_sem] theorem Tryz.fld285_5 : Go.Abs.fld Tryz.prog 285 5 = some (5, 1, false) := by kernel_rfl
@[go_sem] theorem Tryz.fld285_6 : Go.Abs.fld Tryz.prog 285 6 = some (6, 1, false) := by kernel_rfl
@[go_sem] theorem Tryz.fld285_7 : Go.Abs.fld Tryz.prog 285 7 = some (7, 1, false) := by kernel_rfl
@[go_sem] theorem Tryz.fld285_8 : Go.Abs.fld Tryz.prog 285 8 = some (8, 1, false) := by kernel_rfl
@[go_sem] theorem Tryz.fld285_9 : Go.Abs.fld Tryz.prog 285 9 = some (9, 1, false) := by kernel_rfl
@[go_sem] theorem Tryz.fld285_10 : Go.Abs.fld Tryz.prog 285 10 = some (10, 1, false) := by kernel_rfl
@[go_sem] theorem Tryz.und286 : Go.Abs.und Tryz.prog 286 = .struct #[⟨ "Size_", 12, 0, false, "", "", 0⟩, ⟨ "PtrBytes", 12, 1, false, "", "", 8⟩, ⟨ "Hash", 207, 2, false, "", "", 16⟩, ⟨ "TFlag", 279, 3, false, "", "", 20⟩, ⟨ "Align_", 5, 4, false, "", "", 21⟩, ⟨ "FieldAlign_", 5, 5, false, "", "", 22⟩, ⟨ "Kind_", 280, 6, false, "", "", 23⟩, ⟨ "Equal", 281, 7, false, "", "", 24⟩, ⟨ "GCData", 282, 8, false, "", "", 32⟩, ⟨ "Str", 283, 9, false, "", "", 40⟩, ⟨ "PtrToThis", 284, 10, false, "", "", 44⟩] := by kernel_rfl
@[go_sem] theorem Tryz.siz286 : Go.Abs.siz Tryz.prog 286 = some 11 := by kernel_rfl
@[go_sem] theorem Tryz.byt286 : Go.Abs.byt Tryz.prog 286 = some 48 := by kernel_rfl
@[go_sem] theorem Tryz.azero286 : Go.Abs.aZero Tryz.prog 286 = some (11, .agg [.v (.int .u64 0), .v (.int .u64 0), .v (.int .u32 0), .v (.int .u8 0), .v (.int .u8 0), .v (.int .u8 0), .v (.int .u8 0), .v (.nilFunc), .v (.pointer none), .v (.int .i32 0), .v (.int .i32 0)]) := by kernel_rfl
@[go_sem] theorem Tryz.zer286 : Go.Abs.zer Tryz.prog 286 = some (.agg [.v (.int .u64 0), .v (.int .u64 0), .v (.int .u32 0), .v (.int .u8 0), .v (.int .u8 0), .v (.int .u8 0), .v (.int .u8 0), .v (.nilFunc), .v (.pointer none), .v (.int .i32 0), .v (.int .i32 0)]) := by kernel_rfl
@[go_sem] theorem Tryz.plainSrc286 : Go.Abs.plainSrc Tryz.prog 286 = false := by kernel_rfl
@[go_sem] theorem Tryz.fld286_0 : Go.Abs.fld Tryz.prog 286 0 = some (0, 1, false) := by kernel_rfl
@[go_sem] theorem Tryz.fld286_1 : Go.Abs.fld Tryz.prog 286 1 = some (1, 1, false) := by kernel_rfl
@[go_sem] theorem Tryz.fld286_2 : Go.Abs.fld Tryz.prog 286 2 = some (2, 1, false) := by kernel_rfl
@[go_sem] theorem Tryz.fld286_3 : Go.Abs.fld Tryz.prog 286 3 = some (3, 1, false) := by kernel_rfl
@[go_sem] theorem Tryz.fld286_4 : Go.Abs.fld Tryz.prog 286 4 = some (4, 1, false) := by kernel_rfl
@[go_sem] theorem Tryz.fld286_5 : Go.Abs.fld Tryz.prog 286 5 = some (5, 1, false) := by kernel_rfl
@[go_sem] theorem Tryz.fld286_6 : Go.Abs.fld Tryz.prog 286 6 = some (6, 1, false) := by kernel_rfl
@[go_sem] theorem Tryz.fld286_7 : Go.Abs.fld Tryz.prog 286 7 = some (7, 1, false) := by kernel_rfl
@[go_sem] theorem Tryz.fld286_8 : Go.Abs.fld Tryz.prog 286 8 = some (8, 1, false) := by kernel_rfl
@[go_sem] theorem Tryz.fld286_9 : Go.Abs.fld Tryz.prog 286 9 = some (9, 1, false) := by kernel_rfl
@[go_sem] theorem Tryz.fld286_10 : Go.Abs.fld Tryz.prog 286 10 = some (10, 1, false) := by kernel_rfl
@[go_sem] theorem Tryz.und288 : Go.Abs.und Tryz.prog 288 = .slice 96 := by kernel_rfl
@[go_sem] theorem Tryz.siz288 : Go.Abs.siz Tryz.prog 288 = some 1 := by kernel_rfl
@[go_sem] theorem Tryz.byt288 : Go.Abs.byt Tryz.prog 288 = some 24 := by kernel_rfl
@[go_sem] theorem Tryz.azero288 : Go.Abs.aZero Tryz.prog 288 = some (1, .v (.slice none 0 0)) := by kernel_rfl
@[go_sem] theorem Tryz.zer288 : Go.Abs.zer Tryz.prog 288 = some (.v (.slice none 0 0)) := by kernel_rfl
@[go_sem] theorem Tryz.plainSrc288 : Go.Abs.plainSrc Tryz.prog 288 = true := by kernel_rfl
@[go_sem] theorem Tryz.und289 : Go.Abs.und Tryz.prog 289 = .unsafePointer := by kernel_rfl
@[go_sem] theorem Tryz.siz289 : Go.Abs.siz Tryz.prog 289 = some 1 := by kernel_rfl
@[go_sem] theorem Tryz.byt289 : Go.Abs.byt Tryz.prog 289 = some 8 := by kernel_rfl
@[go_sem] theorem Tryz.azero289 : Go.Abs.aZero Tryz.prog 289 = some (1, .v (.pointer none)) := by kernel_rfl
@[go_sem] theorem Tryz.zer289 : Go.Abs.zer Tryz.prog 289 = some (.v (.pointer none)) := by kernel_rfl
@[go_sem] theorem Tryz.plainSrc289 : Go.Abs.plainSrc Tryz.prog 289 = false := by kernel_rfl
end Go.Proofs
