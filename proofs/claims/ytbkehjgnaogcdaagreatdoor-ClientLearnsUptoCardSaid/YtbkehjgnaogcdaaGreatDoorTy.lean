import Derived.Test.YtbkehjgnaogcdaaGreatDoorAbE
import Derived.Test.YtbkehjgnaogcdaaGreatDoorProg
set_option linter.all false
namespace Go.Proofs
@[go_sem] theorem Tryz.und2 : Go.Abs.und Tryz.prog 2 = .int .i64 := by kernel_rfl
@[go_sem] theorem Tryz.siz2 : Go.Abs.siz Tryz.prog 2 = some 1 := by kernel_rfl
@[go_sem] theorem Tryz.byt2 : Go.Abs.byt Tryz.prog 2 = some 8 := by kernel_rfl
@[go_sem] theorem Tryz.azero2 : Go.Abs.aZero Tryz.prog 2 = some (1, .v (.int .i64 0)) := by kernel_rfl
@[go_sem] theorem Tryz.zer2 : Go.Abs.zer Tryz.prog 2 = some (.v (.int .i64 0)) := by kernel_rfl
@[go_sem] theorem Tryz.plainSrc2 : Go.Abs.plainSrc Tryz.prog 2 = false := by kernel_rfl
@[go_sem] theorem Tryz.und3 : Go.Abs.und Tryz.prog 3 = .int .i64 := by kernel_rfl
@[go_sem] theorem Tryz.siz3 : Go.Abs.siz Tryz.prog 3 = some 1 := by kernel_rfl
@[go_sem] theorem Tryz.byt3 : Go.Abs.byt Tryz.prog 3 = some 8 := by kernel_rfl
@[go_sem] theorem Tryz.azero3 : Go.Abs.aZero Tryz.prog 3 = some (1, .v (.int .i64 0)) := by kernel_rfl
@[go_sem] theorem Tryz.zer3 : Go.Abs.zer Tryz.prog 3 = some (.v (.int .i64 0)) := by kernel_rfl
@[go_sem] theorem Tryz.plainSrc3 : Go.Abs.plainSrc Tryz.prog 3 = false := by kernel_rfl
@[go_sem] theorem Tryz.und4 : Go.Abs.und Tryz.prog 4 = .bool := by kernel_rfl
@[go_sem] theorem Tryz.siz4 : Go.Abs.siz Tryz.prog 4 = some 1 := by kernel_rfl
@[go_sem] theorem Tryz.byt4 : Go.Abs.byt Tryz.prog 4 = some 1 := by kernel_rfl
@[go_sem] theorem Tryz.azero4 : Go.Abs.aZero Tryz.prog 4 = some (1, .v (.bool false)) := by kernel_rfl
@[go_sem] theorem Tryz.zer4 : Go.Abs.zer Tryz.prog 4 = some (.v (.bool false)) := by kernel_rfl
@[go_sem] theorem Tryz.plainSrc4 : Go.Abs.plainSrc Tryz.prog 4 = false := by kernel_rfl
@[go_sem] theorem Tryz.und5 : Go.Abs.und Tryz.prog 5 = .int .u8 := by kernel_rfl
@[go_sem] theorem Tryz.siz5 : Go.Abs.siz Tryz.prog 5 = some 1 := by kernel_rfl
@[go_sem] theorem Tryz.byt5 : Go.Abs.byt Tryz.prog 5 = some 1 := by kernel_rfl
@[go_sem] theorem Tryz.azero5 : Go.Abs.aZero Tryz.prog 5 = some (1, .v (.int .u8 0)) := by kernel_rfl
@[go_sem] theorem Tryz.zer5 : Go.Abs.zer Tryz.prog 5 = some (.v (.int .u8 0)) := by kernel_rfl
@[go_sem] theorem Tryz.plainSrc5 : Go.Abs.plainSrc Tryz.prog 5 = false := by kernel_rfl
@[go_sem] theorem Tryz.und6 : Go.Abs.und Tryz.prog 6 = .int .u8 := by kernel_rfl
@[go_sem] theorem Tryz.siz6 : Go.Abs.siz Tryz.prog 6 = some 1 := by kernel_rfl
@[go_sem] theorem Tryz.byt6 : Go.Abs.byt Tryz.prog 6 = some 1 := by kernel_rfl
@[go_sem] theorem Tryz.azero6 : Go.Abs.aZero Tryz.prog 6 = some (1, .v (.int .u8 0)) := by kernel_rfl
@[go_sem] theorem Tryz.zer6 : Go.Abs.zer Tryz.prog 6 = some (.v (.int .u8 0)) := by kernel_rfl
@[go_sem] theorem Tryz.plainSrc6 : Go.Abs.plainSrc Tryz.prog 6 = false := by kernel_rfl
@[go_sem] theorem Tryz.und7 : Go.Abs.und Tryz.prog 7 = .struct #[⟨ "x", 2, 0, false, "", "runtime", 0⟩, ⟨ "y", 3, 1, false, "", "runtime", 8⟩, ⟨ "signed", 4, 2, false, "", "runtime", 16⟩, ⟨ "code", 6, 3, false, "", "runtime", 17⟩] := by kernel_rfl
@[go_sem] theorem Tryz.siz7 : Go.Abs.siz Tryz.prog 7 = some 4 := by kernel_rfl
@[go_sem] theorem Tryz.byt7 : Go.Abs.byt Tryz.prog 7 = some 24 := by kernel_rfl
@[go_sem] theorem Tryz.azero7 : Go.Abs.aZero Tryz.prog 7 = some (4, .agg [.v (.int .i64 0), .v (.int .i64 0), .v (.bool false), .v (.int .u8 0)]) := by kernel_rfl
@[go_sem] theorem Tryz.zer7 : Go.Abs.zer Tryz.prog 7 = some (.agg [.v (.int .i64 0), .v (.int .i64 0), .v (.bool false), .v (.int .u8 0)]) := by kernel_rfl
@[go_sem] theorem Tryz.plainSrc7 : Go.Abs.plainSrc Tryz.prog 7 = false := by kernel_rfl
@[go_sem] theorem Tryz.fld7_0 : Go.Abs.fld Tryz.prog 7 0 = some (0, 1, false) := by kernel_rfl
@[go_sem] theorem Tryz.fld7_1 : Go.Abs.fld Tryz.prog 7 1 = some (1, 1, false) := by kernel_rfl
@[go_sem] theorem Tryz.fld7_2 : Go.Abs.fld Tryz.prog 7 2 = some (2, 1, false) := by kernel_rfl
@[go_sem] theorem Tryz.fld7_3 : Go.Abs.fld Tryz.prog 7 3 = some (3, 1, false) := by kernel_rfl
@[go_sem] theorem Tryz.und8 : Go.Abs.und Tryz.prog 8 = .struct #[⟨ "x", 2, 0, false, "", "runtime", 0⟩, ⟨ "y", 3, 1, false, "", "runtime", 8⟩, ⟨ "signed", 4, 2, false, "", "runtime", 16⟩, ⟨ "code", 6, 3, false, "", "runtime", 17⟩] := by kernel_rfl
@[go_sem] theorem Tryz.siz8 : Go.Abs.siz Tryz.prog 8 = some 4 := by kernel_rfl
@[go_sem] theorem Tryz.byt8 : Go.Abs.byt Tryz.prog 8 = some 24 := by kernel_rfl
@[go_sem] theorem Tryz.azero8 : Go.Abs.aZero Tryz.prog 8 = some (4, .agg [.v (.int .i64 0), .v (.int .i64 0), .v (.bool false), .v (.int .u8 0)]) := by kernel_rfl
@[go_sem] theorem Tryz.zer8 : Go.Abs.zer Tryz.prog 8 = some (.agg [.v (.int .i64 0), .v (.int .i64 0), .v (.bool false), .v (.int .u8 0)]) := by kernel_rfl
@[go_sem] theorem Tryz.plainSrc8 : Go.Abs.plainSrc Tryz.prog 8 = false := by kernel_rfl
@[go_sem] theorem Tryz.fld8_0 : Go.Abs.fld Tryz.prog 8 0 = some (0, 1, false) := by kernel_rfl
@[go_sem] theorem Tryz.fld8_1 : Go.Abs.fld Tryz.prog 8 1 = some (1, 1, false) := by kernel_rfl
@[go_sem] theorem Tryz.fld8_2 : Go.Abs.fld Tryz.prog 8 2 = some (2, 1, false) := by kernel_rfl
@[go_sem] theorem Tryz.fld8_3 : Go.Abs.fld Tryz.prog 8 3 = some (3, 1, false) := by kernel_rfl
@[go_sem] theorem Tryz.und9 : Go.Abs.und Tryz.prog 9 = .string := by kernel_rfl
@[go_sem] theorem Tryz.siz9 : Go.Abs.siz Tryz.prog 9 = some 1 := by kernel_rfl
@[go_sem] theorem Tryz.byt9 : Go.Abs.byt Tryz.prog 9 = some 16 := by kernel_rfl
@[go_sem] theorem Tryz.azero9 : Go.Abs.aZero Tryz.prog 9 = some (1, .v (.string ByteArray.empty)) := by kernel_rfl
@[go_sem] theorem Tryz.zer9 : Go.Abs.zer Tryz.prog 9 = some (.v (.string ByteArray.empty)) := by kernel_rfl
@[go_sem] theorem Tryz.plainSrc9 : Go.Abs.plainSrc Tryz.prog 9 = true := by kernel_rfl
@[go_sem] theorem Tryz.und10 : Go.Abs.und Tryz.prog 10 = .string := by kernel_rfl
@[go_sem] theorem Tryz.siz10 : Go.Abs.siz Tryz.prog 10 = some 1 := by kernel_rfl
@[go_sem] theorem Tryz.byt10 : Go.Abs.byt Tryz.prog 10 = some 16 := by kernel_rfl
@[go_sem] theorem Tryz.azero10 : Go.Abs.aZero Tryz.prog 10 = some (1, .v (.string ByteArray.empty)) := by kernel_rfl
@[go_sem] theorem Tryz.zer10 : Go.Abs.zer Tryz.prog 10 = some (.v (.string ByteArray.empty)) := by kernel_rfl
@[go_sem] theorem Tryz.plainSrc10 : Go.Abs.plainSrc Tryz.prog 10 = true := by kernel_rfl
@[go_sem] theorem Tryz.und11 : Go.Abs.und Tryz.prog 11 = .string := by kernel_rfl
@[go_sem] theorem Tryz.siz11 : Go.Abs.siz Tryz.prog 11 = some 1 := by kernel_rfl
@[go_sem] theorem Tryz.byt11 : Go.Abs.byt Tryz.prog 11 = some 16 := by kernel_rfl
@[go_sem] theorem Tryz.azero11 : Go.Abs.aZero Tryz.prog 11 = some (1, .v (.string ByteArray.empty)) := by kernel_rfl
@[go_sem] theorem Tryz.zer11 : Go.Abs.zer Tryz.prog 11 = some (.v (.string ByteArray.empty)) := by kernel_rfl
@[go_sem] theorem Tryz.plainSrc11 : Go.Abs.plainSrc Tryz.prog 11 = true := by kernel_rfl
@[go_sem] theorem Tryz.und12 : Go.Abs.und Tryz.prog 12 = .int .u64 := by kernel_rfl
@[go_sem] theorem Tryz.siz12 : Go.Abs.siz Tryz.prog 12 = some 1 := by kernel_rfl
@[go_sem] theorem Tryz.byt12 : Go.Abs.byt Tryz.prog 12 = some 8 := by kernel_rfl
@[go_sem] theorem Tryz.azero12 : Go.Abs.aZero Tryz.prog 12 = some (1, .v (.int .u64 0)) := by kernel_rfl
@[go_sem] theorem Tryz.zer12 : Go.Abs.zer Tryz.prog 12 = some (.v (.int .u64 0)) := by kernel_rfl
@[go_sem] theorem Tryz.plainSrc12 : Go.Abs.plainSrc Tryz.prog 12 = false := by kernel_rfl
@[go_sem] theorem Tryz.und13 : Go.Abs.und Tryz.prog 13 = .struct #[⟨ "msg", 9, 0, false, "", "runtime", 0⟩, ⟨ "addr", 12, 1, false, "", "runtime", 16⟩] := by kernel_rfl
@[go_sem] theorem Tryz.siz13 : Go.Abs.siz Tryz.prog 13 = some 2 := by kernel_rfl
@[go_sem] theorem Tryz.byt13 : Go.Abs.byt Tryz.prog 13 = some 24 := by kernel_rfl
@[go_sem] theorem Tryz.azero13 : Go.Abs.aZero Tryz.prog 13 = some (2, .agg [.v (.string ByteArray.empty), .v (.int .u64 0)]) := by kernel_rfl
@[go_sem] theorem Tryz.zer13 : Go.Abs.zer Tryz.prog 13 = some (.agg [.v (.string ByteArray.empty), .v (.int .u64 0)]) := by kernel_rfl
@[go_sem] theorem Tryz.plainSrc13 : Go.Abs.plainSrc Tryz.prog 13 = false := by kernel_rfl
@[go_sem] theorem Tryz.fld13_0 : Go.Abs.fld Tryz.prog 13 0 = some (0, 1, false) := by kernel_rfl
@[go_sem] theorem Tryz.fld13_1 : Go.Abs.fld Tryz.prog 13 1 = some (1, 1, false) := by kernel_rfl
@[go_sem] theorem Tryz.und14 : Go.Abs.und Tryz.prog 14 = .struct #[⟨ "msg", 9, 0, false, "", "runtime", 0⟩, ⟨ "addr", 12, 1, false, "", "runtime", 16⟩] := by kernel_rfl
@[go_sem] theorem Tryz.siz14 : Go.Abs.siz Tryz.prog 14 = some 2 := by kernel_rfl
@[go_sem] theorem Tryz.byt14 : Go.Abs.byt Tryz.prog 14 = some 24 := by kernel_rfl
@[go_sem] theorem Tryz.azero14 : Go.Abs.aZero Tryz.prog 14 = some (2, .agg [.v (.string ByteArray.empty), .v (.int .u64 0)]) := by kernel_rfl
@[go_sem] theorem Tryz.zer14 : Go.Abs.zer Tryz.prog 14 = some (.agg [.v (.string ByteArray.empty), .v (.int .u64 0)]) := by kernel_rfl
@[go_sem] theorem Tryz.plainSrc14 : Go.Abs.plainSrc Tryz.prog 14 = false := by kernel_rfl
@[go_sem] theorem Tryz.fld14_0 : Go.Abs.fld Tryz.prog 14 0 = some (0, 1, false) := by kernel_rfl
@[go_sem] theorem Tryz.fld14_1 : Go.Abs.fld Tryz.prog 14 1 = some (1, 1, false) := by kernel_rfl
@[go_sem] theorem Tryz.und15 : Go.Abs.und Tryz.prog 15 = .pointer 347 := by kernel_rfl
@[go_sem] theorem Tryz.siz15 : Go.Abs.siz Tryz.prog 15 = some 1 := by kernel_rfl
@[go_sem] theorem Tryz.byt15 : Go.Abs.byt Tryz.prog 15 = some 8 := by kernel_rfl
@[go_sem] theorem Tryz.azero15 : Go.Abs.aZero Tryz.prog 15 = some (1, .v (.pointer none)) := by kernel_rfl
@[go_sem] theorem Tryz.zer15 : Go.Abs.zer Tryz.prog 15 = some (.v (.pointer none)) := by kernel_rfl
@[go_sem] theorem Tryz.plainSrc15 : Go.Abs.plainSrc Tryz.prog 15 = false := by kernel_rfl
@[go_sem] theorem Tryz.und16 : Go.Abs.und Tryz.prog 16 = .pointer 350 := by kernel_rfl
@[go_sem] theorem Tryz.siz16 : Go.Abs.siz Tryz.prog 16 = some 1 := by kernel_rfl
@[go_sem] theorem Tryz.byt16 : Go.Abs.byt Tryz.prog 16 = some 8 := by kernel_rfl
@[go_sem] theorem Tryz.azero16 : Go.Abs.aZero Tryz.prog 16 = some (1, .v (.pointer none)) := by kernel_rfl
@[go_sem] theorem Tryz.zer16 : Go.Abs.zer Tryz.prog 16 = some (.v (.pointer none)) := by kernel_rfl
@[go_sem] theorem Tryz.plainSrc16 : Go.Abs.plainSrc Tryz.prog 16 = false := by kernel_rfl
@[go_sem] theorem Tryz.und17 : Go.Abs.und Tryz.prog 17 = .pointer 358 := by kernel_rfl
@[go_sem] theorem Tryz.siz17 : Go.Abs.siz Tryz.prog 17 = some 1 := by kernel_rfl
@[go_sem] theorem Tryz.byt17 : Go.Abs.byt Tryz.prog 17 = some 8 := by kernel_rfl
@[go_sem] theorem Tryz.azero17 : Go.Abs.aZero Tryz.prog 17 = some (1, .v (.pointer none)) := by kernel_rfl
@[go_sem] theorem Tryz.zer17 : Go.Abs.zer Tryz.prog 17 = some (.v (.pointer none)) := by kernel_rfl
@[go_sem] theorem Tryz.plainSrc17 : Go.Abs.plainSrc Tryz.prog 17 = false := by kernel_rfl
@[go_sem] theorem Tryz.und18 : Go.Abs.und Tryz.prog 18 = .struct #[⟨ "typ", 17, 0, false, "", "internal/runtime/maps", 0⟩] := by kernel_rfl
@[go_sem] theorem Tryz.siz18 : Go.Abs.siz Tryz.prog 18 = some 1 := by kernel_rfl
@[go_sem] theorem Tryz.byt18 : Go.Abs.byt Tryz.prog 18 = some 8 := by kernel_rfl
@[go_sem] theorem Tryz.azero18 : Go.Abs.aZero Tryz.prog 18 = some (1, .agg [.v (.pointer none)]) := by kernel_rfl
@[go_sem] theorem Tryz.zer18 : Go.Abs.zer Tryz.prog 18 = some (.agg [.v (.pointer none)]) := by kernel_rfl
@[go_sem] theorem Tryz.plainSrc18 : Go.Abs.plainSrc Tryz.prog 18 = false := by kernel_rfl
@[go_sem] theorem Tryz.fld18_0 : Go.Abs.fld Tryz.prog 18 0 = some (0, 1, false) := by kernel_rfl
@[go_sem] theorem Tryz.und19 : Go.Abs.und Tryz.prog 19 = .struct #[⟨ "typ", 17, 0, false, "", "internal/runtime/maps", 0⟩] := by kernel_rfl
@[go_sem] theorem Tryz.siz19 : Go.Abs.siz Tryz.prog 19 = some 1 := by kernel_rfl
@[go_sem] theorem Tryz.byt19 : Go.Abs.byt Tryz.prog 19 = some 8 := by kernel_rfl
@[go_sem] theorem Tryz.azero19 : Go.Abs.aZero Tryz.prog 19 = some (1, .agg [.v (.pointer none)]) := by kernel_rfl
@[go_sem] theorem Tryz.zer19 : Go.Abs.zer Tryz.prog 19 = some (.agg [.v (.pointer none)]) := by kernel_rfl
@[go_sem] theorem Tryz.plainSrc19 : Go.Abs.plainSrc Tryz.prog 19 = false := by kernel_rfl
@[go_sem] theorem Tryz.fld19_0 : Go.Abs.fld Tryz.prog 19 0 = some (0, 1, false) := by kernel_rfl
@[go_sem] theorem Tryz.und21 : Go.Abs.und Tryz.prog 21 = .int .i32 := by kernel_rfl
@[go_sem] theorem Tryz.siz21 : Go.Abs.siz Tryz.prog 21 = some 1 := by kernel_rfl
@[go_sem] theorem Tryz.byt21 : Go.Abs.byt Tryz.prog 21 = some 4 := by kernel_rfl
@[go_sem] theorem Tryz.azero21 : Go.Abs.aZero Tryz.prog 21 = some (1, .v (.int .i32 0)) := by kernel_rfl
@[go_sem] theorem Tryz.zer21 : Go.Abs.zer Tryz.prog 21 = some (.v (.int .i32 0)) := by kernel_rfl
@[go_sem] theorem Tryz.plainSrc21 : Go.Abs.plainSrc Tryz.prog 21 = false := by kernel_rfl
@[go_sem] theorem Tryz.und22 : Go.Abs.und Tryz.prog 22 = .slice 33 := by kernel_rfl
@[go_sem] theorem Tryz.siz22 : Go.Abs.siz Tryz.prog 22 = some 1 := by kernel_rfl
@[go_sem] theorem Tryz.byt22 : Go.Abs.byt Tryz.prog 22 = some 24 := by kernel_rfl
@[go_sem] theorem Tryz.azero22 : Go.Abs.aZero Tryz.prog 22 = some (1, .v (.slice none 0 0)) := by kernel_rfl
@[go_sem] theorem Tryz.zer22 : Go.Abs.zer Tryz.prog 22 = some (.v (.slice none 0 0)) := by kernel_rfl
@[go_sem] theorem Tryz.plainSrc22 : Go.Abs.plainSrc Tryz.prog 22 = true := by kernel_rfl
@[go_sem] theorem Tryz.und23 : Go.Abs.und Tryz.prog 23 = .pointer 144 := by kernel_rfl
@[go_sem] theorem Tryz.siz23 : Go.Abs.siz Tryz.prog 23 = some 1 := by kernel_rfl
@[go_sem] theorem Tryz.byt23 : Go.Abs.byt Tryz.prog 23 = some 8 := by kernel_rfl
@[go_sem] theorem Tryz.azero23 : Go.Abs.aZero Tryz.prog 23 = some (1, .v (.pointer none)) := by kernel_rfl
@[go_sem] theorem Tryz.zer23 : Go.Abs.zer Tryz.prog 23 = some (.v (.pointer none)) := by kernel_rfl
@[go_sem] theorem Tryz.plainSrc23 : Go.Abs.plainSrc Tryz.prog 23 = false := by kernel_rfl
@[go_sem] theorem Tryz.und24 : Go.Abs.und Tryz.prog 24 = .int .i64 := by kernel_rfl
@[go_sem] theorem Tryz.siz24 : Go.Abs.siz Tryz.prog 24 = some 1 := by kernel_rfl
@[go_sem] theorem Tryz.byt24 : Go.Abs.byt Tryz.prog 24 = some 8 := by kernel_rfl
@[go_sem] theorem Tryz.azero24 : Go.Abs.aZero Tryz.prog 24 = some (1, .v (.int .i64 0)) := by kernel_rfl
@[go_sem] theorem Tryz.zer24 : Go.Abs.zer Tryz.prog 24 = some (.v (.int .i64 0)) := by kernel_rfl
@[go_sem] theorem Tryz.plainSrc24 : Go.Abs.plainSrc Tryz.prog 24 = false := by kernel_rfl
@[go_sem] theorem Tryz.und27 : Go.Abs.und Tryz.prog 27 = .pointer 147 := by kernel_rfl
@[go_sem] theorem Tryz.siz27 : Go.Abs.siz Tryz.prog 27 = some 1 := by kernel_rfl
@[go_sem] theorem Tryz.byt27 : Go.Abs.byt Tryz.prog 27 = some 8 := by kernel_rfl
@[go_sem] theorem Tryz.azero27 : Go.Abs.aZero Tryz.prog 27 = some (1, .v (.pointer none)) := by kernel_rfl
@[go_sem] theorem Tryz.zer27 : Go.Abs.zer Tryz.prog 27 = some (.v (.pointer none)) := by kernel_rfl
@[go_sem] theorem Tryz.plainSrc27 : Go.Abs.plainSrc Tryz.prog 27 = false := by kernel_rfl
@[go_sem] theorem Tryz.und31 : Go.Abs.und Tryz.prog 31 = .slice 3 := by kernel_rfl
@[go_sem] theorem Tryz.siz31 : Go.Abs.siz Tryz.prog 31 = some 1 := by kernel_rfl
@[go_sem] theorem Tryz.byt31 : Go.Abs.byt Tryz.prog 31 = some 24 := by kernel_rfl
@[go_sem] theorem Tryz.azero31 : Go.Abs.aZero Tryz.prog 31 = some (1, .v (.slice none 0 0)) := by kernel_rfl
@[go_sem] theorem Tryz.zer31 : Go.Abs.zer Tryz.prog 31 = some (.v (.slice none 0 0)) := by kernel_rfl
@[go_sem] theorem Tryz.plainSrc31 : Go.Abs.plainSrc Tryz.prog 31 = true := by kernel_rfl
@[go_sem] theorem Tryz.und32 : Go.Abs.und Tryz.prog 32 = .struct #[⟨ "Kind", 3, 0, false, "", "", 0⟩, ⟨ "Chain", 3, 1, false, "", "", 8⟩, ⟨ "Brick", 3, 2, false, "", "", 16⟩, ⟨ "Epoch", 3, 3, false, "", "", 24⟩, ⟨ "List", 31, 4, false, "", "", 32⟩, ⟨ "Cursor", 9, 5, false, "", "", 56⟩] := by kernel_rfl
@[go_sem] theorem Tryz.siz32 : Go.Abs.siz Tryz.prog 32 = some 6 := by kernel_rfl
@[go_sem] theorem Tryz.byt32 : Go.Abs.byt Tryz.prog 32 = some 72 := by kernel_rfl
@[go_sem] theorem Tryz.azero32 : Go.Abs.aZero Tryz.prog 32 = some (6, .agg [.v (.int .i64 0), .v (.int .i64 0), .v (.int .i64 0), .v (.int .i64 0), .v (.slice none 0 0), .v (.string ByteArray.empty)]) := by kernel_rfl
@[go_sem] theorem Tryz.zer32 : Go.Abs.zer Tryz.prog 32 = some (.agg [.v (.int .i64 0), .v (.int .i64 0), .v (.int .i64 0), .v (.int .i64 0), .v (.slice none 0 0), .v (.string ByteArray.empty)]) := by kernel_rfl
@[go_sem] theorem Tryz.plainSrc32 : Go.Abs.plainSrc Tryz.prog 32 = false := by kernel_rfl
@[go_sem] theorem Tryz.fld32_0 : Go.Abs.fld Tryz.prog 32 0 = some (0, 1, false) := by kernel_rfl
@[go_sem] theorem Tryz.fld32_1 : Go.Abs.fld Tryz.prog 32 1 = some (1, 1, false) := by kernel_rfl
@[go_sem] theorem Tryz.fld32_2 : Go.Abs.fld Tryz.prog 32 2 = some (2, 1, false) := by kernel_rfl
@[go_sem] theorem Tryz.fld32_3 : Go.Abs.fld Tryz.prog 32 3 = some (3, 1, false) := by kernel_rfl
@[go_sem] theorem Tryz.fld32_4 : Go.Abs.fld Tryz.prog 32 4 = some (4, 1, false) := by kernel_rfl
@[go_sem] theorem Tryz.fld32_5 : Go.Abs.fld Tryz.prog 32 5 = some (5, 1, false) := by kernel_rfl
@[go_sem] theorem Tryz.und33 : Go.Abs.und Tryz.prog 33 = .struct #[⟨ "Kind", 3, 0, false, "", "", 0⟩, ⟨ "Chain", 3, 1, false, "", "", 8⟩, ⟨ "Brick", 3, 2, false, "", "", 16⟩, ⟨ "Epoch", 3, 3, false, "", "", 24⟩, ⟨ "List", 31, 4, false, "", "", 32⟩, ⟨ "Cursor", 9, 5, false, "", "", 56⟩] := by kernel_rfl
@[go_sem] theorem Tryz.siz33 : Go.Abs.siz Tryz.prog 33 = some 6 := by kernel_rfl
@[go_sem] theorem Tryz.byt33 : Go.Abs.byt Tryz.prog 33 = some 72 := by kernel_rfl
@[go_sem] theorem Tryz.azero33 : Go.Abs.aZero Tryz.prog 33 = some (6, .agg [.v (.int .i64 0), .v (.int .i64 0), .v (.int .i64 0), .v (.int .i64 0), .v (.slice none 0 0), .v (.string ByteArray.empty)]) := by kernel_rfl
@[go_sem] theorem Tryz.zer33 : Go.Abs.zer Tryz.prog 33 = some (.agg [.v (.int .i64 0), .v (.int .i64 0), .v (.int .i64 0), .v (.int .i64 0), .v (.slice none 0 0), .v (.string ByteArray.empty)]) := by kernel_rfl
@[go_sem] theorem Tryz.plainSrc33 : Go.Abs.plainSrc Tryz.prog 33 = false := by kernel_rfl
@[go_sem] theorem Tryz.fld33_0 : Go.Abs.fld Tryz.prog 33 0 = some (0, 1, false) := by kernel_rfl
@[go_sem] theorem Tryz.fld33_1 : Go.Abs.fld Tryz.prog 33 1 = some (1, 1, false) := by kernel_rfl
@[go_sem] theorem Tryz.fld33_2 : Go.Abs.fld Tryz.prog 33 2 = some (2, 1, false) := by kernel_rfl
@[go_sem] theorem Tryz.fld33_3 : Go.Abs.fld Tryz.prog 33 3 = some (3, 1, false) := by kernel_rfl
@[go_sem] theorem Tryz.fld33_4 : Go.Abs.fld Tryz.prog 33 4 = some (4, 1, false) := by kernel_rfl
@[go_sem] theorem Tryz.fld33_5 : Go.Abs.fld Tryz.prog 33 5 = some (5, 1, false) := by kernel_rfl
@[go_sem] theorem Tryz.und42 : Go.Abs.und Tryz.prog 42 = .slice 9 := by kernel_rfl
@[go_sem] theorem Tryz.siz42 : Go.Abs.siz Tryz.prog 42 = some 1 := by kernel_rfl
@[go_sem] theorem Tryz.byt42 : Go.Abs.byt Tryz.prog 42 = some 24 := by kernel_rfl
@[go_sem] theorem Tryz.azero42 : Go.Abs.aZero Tryz.prog 42 = some (1, .v (.slice none 0 0)) := by kernel_rfl
@[go_sem] theorem Tryz.zer42 : Go.Abs.zer Tryz.prog 42 = some (.v (.slice none 0 0)) := by kernel_rfl
@[go_sem] theorem Tryz.plainSrc42 : Go.Abs.plainSrc Tryz.prog 42 = true := by kernel_rfl
@[go_sem] theorem Tryz.und43 : Go.Abs.und Tryz.prog 43 = .pointer 171 := by kernel_rfl
@[go_sem] theorem Tryz.siz43 : Go.Abs.siz Tryz.prog 43 = some 1 := by kernel_rfl
@[go_sem] theorem Tryz.byt43 : Go.Abs.byt Tryz.prog 43 = some 8 := by kernel_rfl
@[go_sem] theorem Tryz.azero43 : Go.Abs.aZero Tryz.prog 43 = some (1, .v (.pointer none)) := by kernel_rfl
@[go_sem] theorem Tryz.zer43 : Go.Abs.zer Tryz.prog 43 = some (.v (.pointer none)) := by kernel_rfl
@[go_sem] theorem Tryz.plainSrc43 : Go.Abs.plainSrc Tryz.prog 43 = false := by kernel_rfl
@[go_sem] theorem Tryz.und46 : Go.Abs.und Tryz.prog 46 = .struct #[⟨ "Version", 3, 0, false, "", "", 0⟩, ⟨ "Weights", 31, 1, false, "", "", 8⟩] := by kernel_rfl
@[go_sem] theorem Tryz.siz46 : Go.Abs.siz Tryz.prog 46 = some 2 := by kernel_rfl
@[go_sem] theorem Tryz.byt46 : Go.Abs.byt Tryz.prog 46 = some 32 := by kernel_rfl
@[go_sem] theorem Tryz.azero46 : Go.Abs.aZero Tryz.prog 46 = some (2, .agg [.v (.int .i64 0), .v (.slice none 0 0)]) := by kernel_rfl
@[go_sem] theorem Tryz.zer46 : Go.Abs.zer Tryz.prog 46 = some (.agg [.v (.int .i64 0), .v (.slice none 0 0)]) := by kernel_rfl
@[go_sem] theorem Tryz.plainSrc46 : Go.Abs.plainSrc Tryz.prog 46 = false := by kernel_rfl
@[go_sem] theorem Tryz.fld46_0 : Go.Abs.fld Tryz.prog 46 0 = some (0, 1, false) := by kernel_rfl
@[go_sem] theorem Tryz.fld46_1 : Go.Abs.fld Tryz.prog 46 1 = some (1, 1, false) := by kernel_rfl
@[go_sem] theorem Tryz.und47 : Go.Abs.und Tryz.prog 47 = .struct #[⟨ "Version", 3, 0, false, "", "", 0⟩, ⟨ "Weights", 31, 1, false, "", "", 8⟩] := by kernel_rfl
@[go_sem] theorem Tryz.siz47 : Go.Abs.siz Tryz.prog 47 = some 2 := by kernel_rfl
@[go_sem] theorem Tryz.byt47 : Go.Abs.byt Tryz.prog 47 = some 32 := by kernel_rfl
@[go_sem] theorem Tryz.azero47 : Go.Abs.aZero Tryz.prog 47 = some (2, .agg [.v (.int .i64 0), .v (.slice none 0 0)]) := by kernel_rfl
@[go_sem] theorem Tryz.zer47 : Go.Abs.zer Tryz.prog 47 = some (.agg [.v (.int .i64 0), .v (.slice none 0 0)]) := by kernel_rfl
@[go_sem] theorem Tryz.plainSrc47 : Go.Abs.plainSrc Tryz.prog 47 = false := by kernel_rfl
@[go_sem] theorem Tryz.fld47_0 : Go.Abs.fld Tryz.prog 47 0 = some (0, 1, false) := by kernel_rfl
@[go_sem] theorem Tryz.fld47_1 : Go.Abs.fld Tryz.prog 47 1 = some (1, 1, false) := by kernel_rfl
@[go_sem] theorem Tryz.und49 : Go.Abs.und Tryz.prog 49 = .slice 79 := by kernel_rfl
@[go_sem] theorem Tryz.siz49 : Go.Abs.siz Tryz.prog 49 = some 1 := by kernel_rfl
@[go_sem] theorem Tryz.byt49 : Go.Abs.byt Tryz.prog 49 = some 24 := by kernel_rfl
@[go_sem] theorem Tryz.azero49 : Go.Abs.aZero Tryz.prog 49 = some (1, .v (.slice none 0 0)) := by kernel_rfl
@[go_sem] theorem Tryz.zer49 : Go.Abs.zer Tryz.prog 49 = some (.v (.slice none 0 0)) := by kernel_rfl
@[go_sem] theorem Tryz.plainSrc49 : Go.Abs.plainSrc Tryz.prog 49 = true := by kernel_rfl
@[go_sem] theorem Tryz.und52 : Go.Abs.und Tryz.prog 52 = .slice 202 := by kernel_rfl
@[go_sem] theorem Tryz.siz52 : Go.Abs.siz Tryz.prog 52 = some 1 := by kernel_rfl
@[go_sem] theorem Tryz.byt52 : Go.Abs.byt Tryz.prog 52 = some 24 := by kernel_rfl
@[go_sem] theorem Tryz.azero52 : Go.Abs.aZero Tryz.prog 52 = some (1, .v (.slice none 0 0)) := by kernel_rfl
@[go_sem] theorem Tryz.zer52 : Go.Abs.zer Tryz.prog 52 = some (.v (.slice none 0 0)) := by kernel_rfl
@[go_sem] theorem Tryz.plainSrc52 : Go.Abs.plainSrc Tryz.prog 52 = true := by kernel_rfl
@[go_sem] theorem Tryz.und53 : Go.Abs.und Tryz.prog 53 = .struct #[⟨ "Code", 24, 0, false, "", "", 0⟩, ⟨ "Stamp", 3, 1, false, "", "", 8⟩, ⟨ "Val", 9, 2, false, "", "", 16⟩, ⟨ "Rows", 52, 3, false, "", "", 32⟩] := by kernel_rfl
@[go_sem] theorem Tryz.siz53 : Go.Abs.siz Tryz.prog 53 = some 4 := by kernel_rfl
@[go_sem] theorem Tryz.byt53 : Go.Abs.byt Tryz.prog 53 = some 56 := by kernel_rfl
@[go_sem] theorem Tryz.azero53 : Go.Abs.aZero Tryz.prog 53 = some (4, .agg [.v (.int .i64 0), .v (.int .i64 0), .v (.string ByteArray.empty), .v (.slice none 0 0)]) := by kernel_rfl
@[go_sem] theorem Tryz.zer53 : Go.Abs.zer Tryz.prog 53 = some (.agg [.v (.int .i64 0), .v (.int .i64 0), .v (.string ByteArray.empty), .v (.slice none 0 0)]) := by kernel_rfl
@[go_sem] theorem Tryz.plainSrc53 : Go.Abs.plainSrc Tryz.prog 53 = false := by kernel_rfl
@[go_sem] theorem Tryz.fld53_0 : Go.Abs.fld Tryz.prog 53 0 = some (0, 1, false) := by kernel_rfl
@[go_sem] theorem Tryz.fld53_1 : Go.Abs.fld Tryz.prog 53 1 = some (1, 1, false) := by kernel_rfl
@[go_sem] theorem Tryz.fld53_2 : Go.Abs.fld Tryz.prog 53 2 = some (2, 1, false) := by kernel_rfl
@[go_sem] theorem Tryz.fld53_3 : Go.Abs.fld Tryz.prog 53 3 = some (3, 1, false) := by kernel_rfl
@[go_sem] theorem Tryz.und54 : Go.Abs.und Tryz.prog 54 = .struct #[⟨ "Code", 24, 0, false, "", "", 0⟩, ⟨ "Stamp", 3, 1, false, "", "", 8⟩, ⟨ "Val", 9, 2, false, "", "", 16⟩, ⟨ "Rows", 52, 3, false, "", "", 32⟩] := by kernel_rfl
@[go_sem] theorem Tryz.siz54 : Go.Abs.siz Tryz.prog 54 = some 4 := by kernel_rfl
@[go_sem] theorem Tryz.byt54 : Go.Abs.byt Tryz.prog 54 = some 56 := by kernel_rfl
@[go_sem] theorem Tryz.azero54 : Go.Abs.aZero Tryz.prog 54 = some (4, .agg [.v (.int .i64 0), .v (.int .i64 0), .v (.string ByteArray.empty), .v (.slice none 0 0)]) := by kernel_rfl
@[go_sem] theorem Tryz.zer54 : Go.Abs.zer Tryz.prog 54 = some (.agg [.v (.int .i64 0), .v (.int .i64 0), .v (.string ByteArray.empty), .v (.slice none 0 0)]) := by kernel_rfl
@[go_sem] theorem Tryz.plainSrc54 : Go.Abs.plainSrc Tryz.prog 54 = false := by kernel_rfl
@[go_sem] theorem Tryz.fld54_0 : Go.Abs.fld Tryz.prog 54 0 = some (0, 1, false) := by kernel_rfl
@[go_sem] theorem Tryz.fld54_1 : Go.Abs.fld Tryz.prog 54 1 = some (1, 1, false) := by kernel_rfl
@[go_sem] theorem Tryz.fld54_2 : Go.Abs.fld Tryz.prog 54 2 = some (2, 1, false) := by kernel_rfl
@[go_sem] theorem Tryz.fld54_3 : Go.Abs.fld Tryz.prog 54 3 = some (3, 1, false) := by kernel_rfl
@[go_sem] theorem Tryz.und55 : Go.Abs.und Tryz.prog 55 = .slice 54 := by kernel_rfl
@[go_sem] theorem Tryz.siz55 : Go.Abs.siz Tryz.prog 55 = some 1 := by kernel_rfl
@[go_sem] theorem Tryz.byt55 : Go.Abs.byt Tryz.prog 55 = some 24 := by kernel_rfl
@[go_sem] theorem Tryz.azero55 : Go.Abs.aZero Tryz.prog 55 = some (1, .v (.slice none 0 0)) := by kernel_rfl
@[go_sem] theorem Tryz.zer55 : Go.Abs.zer Tryz.prog 55 = some (.v (.slice none 0 0)) := by kernel_rfl
@[go_sem] theorem Tryz.plainSrc55 : Go.Abs.plainSrc Tryz.prog 55 = true := by kernel_rfl
@[go_sem] theorem Tryz.und56 : Go.Abs.und Tryz.prog 56 = .struct #[⟨ "At", 3, 0, false, "", "", 0⟩, ⟨ "Code", 24, 1, false, "", "", 8⟩] := by kernel_rfl
@[go_sem] theorem Tryz.siz56 : Go.Abs.siz Tryz.prog 56 = some 2 := by kernel_rfl
@[go_sem] theorem Tryz.byt56 : Go.Abs.byt Tryz.prog 56 = some 16 := by kernel_rfl
@[go_sem] theorem Tryz.azero56 : Go.Abs.aZero Tryz.prog 56 = some (2, .agg [.v (.int .i64 0), .v (.int .i64 0)]) := by kernel_rfl
@[go_sem] theorem Tryz.zer56 : Go.Abs.zer Tryz.prog 56 = some (.agg [.v (.int .i64 0), .v (.int .i64 0)]) := by kernel_rfl
@[go_sem] theorem Tryz.plainSrc56 : Go.Abs.plainSrc Tryz.prog 56 = false := by kernel_rfl
@[go_sem] theorem Tryz.fld56_0 : Go.Abs.fld Tryz.prog 56 0 = some (0, 1, false) := by kernel_rfl
@[go_sem] theorem Tryz.fld56_1 : Go.Abs.fld Tryz.prog 56 1 = some (1, 1, false) := by kernel_rfl
@[go_sem] theorem Tryz.und57 : Go.Abs.und Tryz.prog 57 = .struct #[⟨ "At", 3, 0, false, "", "", 0⟩, ⟨ "Code", 24, 1, false, "", "", 8⟩] := by kernel_rfl
@[go_sem] theorem Tryz.siz57 : Go.Abs.siz Tryz.prog 57 = some 2 := by kernel_rfl
@[go_sem] theorem Tryz.byt57 : Go.Abs.byt Tryz.prog 57 = some 16 := by kernel_rfl
@[go_sem] theorem Tryz.azero57 : Go.Abs.aZero Tryz.prog 57 = some (2, .agg [.v (.int .i64 0), .v (.int .i64 0)]) := by kernel_rfl
@[go_sem] theorem Tryz.zer57 : Go.Abs.zer Tryz.prog 57 = some (.agg [.v (.int .i64 0), .v (.int .i64 0)]) := by kernel_rfl
@[go_sem] theorem Tryz.plainSrc57 : Go.Abs.plainSrc Tryz.prog 57 = false := by kernel_rfl
@[go_sem] theorem Tryz.fld57_0 : Go.Abs.fld Tryz.prog 57 0 = some (0, 1, false) := by kernel_rfl
@[go_sem] theorem Tryz.fld57_1 : Go.Abs.fld Tryz.prog 57 1 = some (1, 1, false) := by kernel_rfl
@[go_sem] theorem Tryz.und58 : Go.Abs.und Tryz.prog 58 = .struct #[⟨ "Client", 3, 0, false, "", "", 0⟩, ⟨ "Seq", 3, 1, false, "", "", 8⟩, ⟨ "Results", 55, 2, false, "", "", 16⟩, ⟨ "Fault", 57, 3, false, "", "", 40⟩] := by kernel_rfl
@[go_sem] theorem Tryz.siz58 : Go.Abs.siz Tryz.prog 58 = some 5 := by kernel_rfl
@[go_sem] theorem Tryz.byt58 : Go.Abs.byt Tryz.prog 58 = some 56 := by kernel_rfl
@[go_sem] theorem Tryz.azero58 : Go.Abs.aZero Tryz.prog 58 = some (5, .agg [.v (.int .i64 0), .v (.int .i64 0), .v (.slice none 0 0), .v (.int .i64 0), .v (.int .i64 0)]) := by kernel_rfl
@[go_sem] theorem Tryz.zer58 : Go.Abs.zer Tryz.prog 58 = some (.agg [.v (.int .i64 0), .v (.int .i64 0), .v (.slice none 0 0), .v (.int .i64 0), .v (.int .i64 0)]) := by kernel_rfl
@[go_sem] theorem Tryz.plainSrc58 : Go.Abs.plainSrc Tryz.prog 58 = false := by kernel_rfl
@[go_sem] theorem Tryz.fld58_0 : Go.Abs.fld Tryz.prog 58 0 = some (0, 1, false) := by kernel_rfl
@[go_sem] theorem Tryz.fld58_1 : Go.Abs.fld Tryz.prog 58 1 = some (1, 1, false) := by kernel_rfl
@[go_sem] theorem Tryz.fld58_2 : Go.Abs.fld Tryz.prog 58 2 = some (2, 1, false) := by kernel_rfl
@[go_sem] theorem Tryz.fld58_3 : Go.Abs.fld Tryz.prog 58 3 = some (3, 2, true) := by kernel_rfl
@[go_sem] theorem Tryz.und59 : Go.Abs.und Tryz.prog 59 = .struct #[⟨ "Client", 3, 0, false, "", "", 0⟩, ⟨ "Seq", 3, 1, false, "", "", 8⟩, ⟨ "Results", 55, 2, false, "", "", 16⟩, ⟨ "Fault", 57, 3, false, "", "", 40⟩] := by kernel_rfl
@[go_sem] theorem Tryz.siz59 : Go.Abs.siz Tryz.prog 59 = some 5 := by kernel_rfl
@[go_sem] theorem Tryz.byt59 : Go.Abs.byt Tryz.prog 59 = some 56 := by kernel_rfl
@[go_sem] theorem Tryz.azero59 : Go.Abs.aZero Tryz.prog 59 = some (5, .agg [.v (.int .i64 0), .v (.int .i64 0), .v (.slice none 0 0), .v (.int .i64 0), .v (.int .i64 0)]) := by kernel_rfl
@[go_sem] theorem Tryz.zer59 : Go.Abs.zer Tryz.prog 59 = some (.agg [.v (.int .i64 0), .v (.int .i64 0), .v (.slice none 0 0), .v (.int .i64 0), .v (.int .i64 0)]) := by kernel_rfl
@[go_sem] theorem Tryz.plainSrc59 : Go.Abs.plainSrc Tryz.prog 59 = false := by kernel_rfl
@[go_sem] theorem Tryz.fld59_0 : Go.Abs.fld Tryz.prog 59 0 = some (0, 1, false) := by kernel_rfl
@[go_sem] theorem Tryz.fld59_1 : Go.Abs.fld Tryz.prog 59 1 = some (1, 1, false) := by kernel_rfl
@[go_sem] theorem Tryz.fld59_2 : Go.Abs.fld Tryz.prog 59 2 = some (2, 1, false) := by kernel_rfl
@[go_sem] theorem Tryz.fld59_3 : Go.Abs.fld Tryz.prog 59 3 = some (3, 2, true) := by kernel_rfl
@[go_sem] theorem Tryz.und67 : Go.Abs.und Tryz.prog 67 = .slice 81 := by kernel_rfl
@[go_sem] theorem Tryz.siz67 : Go.Abs.siz Tryz.prog 67 = some 1 := by kernel_rfl
@[go_sem] theorem Tryz.byt67 : Go.Abs.byt Tryz.prog 67 = some 24 := by kernel_rfl
@[go_sem] theorem Tryz.azero67 : Go.Abs.aZero Tryz.prog 67 = some (1, .v (.slice none 0 0)) := by kernel_rfl
@[go_sem] theorem Tryz.zer67 : Go.Abs.zer Tryz.prog 67 = some (.v (.slice none 0 0)) := by kernel_rfl
@[go_sem] theorem Tryz.plainSrc67 : Go.Abs.plainSrc Tryz.prog 67 = true := by kernel_rfl
@[go_sem] theorem Tryz.und69 : Go.Abs.und Tryz.prog 69 = .struct #[⟨ "Text", 4, 0, false, "", "", 0⟩, ⟨ "N", 2, 1, false, "", "", 8⟩, ⟨ "S", 9, 2, false, "", "", 16⟩] := by kernel_rfl
@[go_sem] theorem Tryz.siz69 : Go.Abs.siz Tryz.prog 69 = some 3 := by kernel_rfl
@[go_sem] theorem Tryz.byt69 : Go.Abs.byt Tryz.prog 69 = some 32 := by kernel_rfl
@[go_sem] theorem Tryz.azero69 : Go.Abs.aZero Tryz.prog 69 = some (3, .agg [.v (.bool false), .v (.int .i64 0), .v (.string ByteArray.empty)]) := by kernel_rfl
@[go_sem] theorem Tryz.zer69 : Go.Abs.zer Tryz.prog 69 = some (.agg [.v (.bool false), .v (.int .i64 0), .v (.string ByteArray.empty)]) := by kernel_rfl
@[go_sem] theorem Tryz.plainSrc69 : Go.Abs.plainSrc Tryz.prog 69 = false := by kernel_rfl
@[go_sem] theorem Tryz.fld69_0 : Go.Abs.fld Tryz.prog 69 0 = some (0, 1, false) := by kernel_rfl
@[go_sem] theorem Tryz.fld69_1 : Go.Abs.fld Tryz.prog 69 1 = some (1, 1, false) := by kernel_rfl
@[go_sem] theorem Tryz.fld69_2 : Go.Abs.fld Tryz.prog 69 2 = some (2, 1, false) := by kernel_rfl
@[go_sem] theorem Tryz.und70 : Go.Abs.und Tryz.prog 70 = .struct #[⟨ "Text", 4, 0, false, "", "", 0⟩, ⟨ "N", 2, 1, false, "", "", 8⟩, ⟨ "S", 9, 2, false, "", "", 16⟩] := by kernel_rfl
@[go_sem] theorem Tryz.siz70 : Go.Abs.siz Tryz.prog 70 = some 3 := by kernel_rfl
@[go_sem] theorem Tryz.byt70 : Go.Abs.byt Tryz.prog 70 = some 32 := by kernel_rfl
@[go_sem] theorem Tryz.azero70 : Go.Abs.aZero Tryz.prog 70 = some (3, .agg [.v (.bool false), .v (.int .i64 0), .v (.string ByteArray.empty)]) := by kernel_rfl
@[go_sem] theorem Tryz.zer70 : Go.Abs.zer Tryz.prog 70 = some (.agg [.v (.bool false), .v (.int .i64 0), .v (.string ByteArray.empty)]) := by kernel_rfl
@[go_sem] theorem Tryz.plainSrc70 : Go.Abs.plainSrc Tryz.prog 70 = false := by kernel_rfl
@[go_sem] theorem Tryz.fld70_0 : Go.Abs.fld Tryz.prog 70 0 = some (0, 1, false) := by kernel_rfl
@[go_sem] theorem Tryz.fld70_1 : Go.Abs.fld Tryz.prog 70 1 = some (1, 1, false) := by kernel_rfl
@[go_sem] theorem Tryz.fld70_2 : Go.Abs.fld Tryz.prog 70 2 = some (2, 1, false) := by kernel_rfl
@[go_sem] theorem Tryz.und71 : Go.Abs.und Tryz.prog 71 = .slice 70 := by kernel_rfl
@[go_sem] theorem Tryz.siz71 : Go.Abs.siz Tryz.prog 71 = some 1 := by kernel_rfl
@[go_sem] theorem Tryz.byt71 : Go.Abs.byt Tryz.prog 71 = some 24 := by kernel_rfl
@[go_sem] theorem Tryz.azero71 : Go.Abs.aZero Tryz.prog 71 = some (1, .v (.slice none 0 0)) := by kernel_rfl
@[go_sem] theorem Tryz.zer71 : Go.Abs.zer Tryz.prog 71 = some (.v (.slice none 0 0)) := by kernel_rfl
@[go_sem] theorem Tryz.plainSrc71 : Go.Abs.plainSrc Tryz.prog 71 = true := by kernel_rfl
@[go_sem] theorem Tryz.und78 : Go.Abs.und Tryz.prog 78 = .struct #[⟨ "Kind", 3, 0, false, "", "", 0⟩, ⟨ "Key", 9, 1, false, "", "", 8⟩, ⟨ "Val", 9, 2, false, "", "", 24⟩, ⟨ "Stamp", 3, 3, false, "", "", 40⟩, ⟨ "Test", 3, 4, false, "", "", 48⟩, ⟨ "Most", 3, 5, false, "", "", 56⟩] := by kernel_rfl
@[go_sem] theorem Tryz.siz78 : Go.Abs.siz Tryz.prog 78 = some 6 := by kernel_rfl
@[go_sem] theorem Tryz.byt78 : Go.Abs.byt Tryz.prog 78 = some 64 := by kernel_rfl
@[go_sem] theorem Tryz.azero78 : Go.Abs.aZero Tryz.prog 78 = some (6, .agg [.v (.int .i64 0), .v (.string ByteArray.empty), .v (.string ByteArray.empty), .v (.int .i64 0), .v (.int .i64 0), .v (.int .i64 0)]) := by kernel_rfl
@[go_sem] theorem Tryz.zer78 : Go.Abs.zer Tryz.prog 78 = some (.agg [.v (.int .i64 0), .v (.string ByteArray.empty), .v (.string ByteArray.empty), .v (.int .i64 0), .v (.int .i64 0), .v (.int .i64 0)]) := by kernel_rfl
@[go_sem] theorem Tryz.plainSrc78 : Go.Abs.plainSrc Tryz.prog 78 = false := by kernel_rfl
@[go_sem] theorem Tryz.fld78_0 : Go.Abs.fld Tryz.prog 78 0 = some (0, 1, false) := by kernel_rfl
@[go_sem] theorem Tryz.fld78_1 : Go.Abs.fld Tryz.prog 78 1 = some (1, 1, false) := by kernel_rfl
@[go_sem] theorem Tryz.fld78_2 : Go.Abs.fld Tryz.prog 78 2 = some (2, 1, false) := by kernel_rfl
@[go_sem] theorem Tryz.fld78_3 : Go.Abs.fld Tryz.prog 78 3 = some (3, 1, false) := by kernel_rfl
@[go_sem] theorem Tryz.fld78_4 : Go.Abs.fld Tryz.prog 78 4 = some (4, 1, false) := by kernel_rfl
@[go_sem] theorem Tryz.fld78_5 : Go.Abs.fld Tryz.prog 78 5 = some (5, 1, false) := by kernel_rfl
@[go_sem] theorem Tryz.und79 : Go.Abs.und Tryz.prog 79 = .struct #[⟨ "Kind", 3, 0, false, "", "", 0⟩, ⟨ "Key", 9, 1, false, "", "", 8⟩, ⟨ "Val", 9, 2, false, "", "", 24⟩, ⟨ "Stamp", 3, 3, false, "", "", 40⟩, ⟨ "Test", 3, 4, false, "", "", 48⟩, ⟨ "Most", 3, 5, false, "", "", 56⟩] := by kernel_rfl
@[go_sem] theorem Tryz.siz79 : Go.Abs.siz Tryz.prog 79 = some 6 := by kernel_rfl
@[go_sem] theorem Tryz.byt79 : Go.Abs.byt Tryz.prog 79 = some 64 := by kernel_rfl
@[go_sem] theorem Tryz.azero79 : Go.Abs.aZero Tryz.prog 79 = some (6, .agg [.v (.int .i64 0), .v (.string ByteArray.empty), .v (.string ByteArray.empty), .v (.int .i64 0), .v (.int .i64 0), .v (.int .i64 0)]) := by kernel_rfl
@[go_sem] theorem Tryz.zer79 : Go.Abs.zer Tryz.prog 79 = some (.agg [.v (.int .i64 0), .v (.string ByteArray.empty), .v (.string ByteArray.empty), .v (.int .i64 0), .v (.int .i64 0), .v (.int .i64 0)]) := by kernel_rfl
@[go_sem] theorem Tryz.plainSrc79 : Go.Abs.plainSrc Tryz.prog 79 = false := by kernel_rfl
@[go_sem] theorem Tryz.fld79_0 : Go.Abs.fld Tryz.prog 79 0 = some (0, 1, false) := by kernel_rfl
@[go_sem] theorem Tryz.fld79_1 : Go.Abs.fld Tryz.prog 79 1 = some (1, 1, false) := by kernel_rfl
@[go_sem] theorem Tryz.fld79_2 : Go.Abs.fld Tryz.prog 79 2 = some (2, 1, false) := by kernel_rfl
@[go_sem] theorem Tryz.fld79_3 : Go.Abs.fld Tryz.prog 79 3 = some (3, 1, false) := by kernel_rfl
@[go_sem] theorem Tryz.fld79_4 : Go.Abs.fld Tryz.prog 79 4 = some (4, 1, false) := by kernel_rfl
@[go_sem] theorem Tryz.fld79_5 : Go.Abs.fld Tryz.prog 79 5 = some (5, 1, false) := by kernel_rfl
@[go_sem] theorem Tryz.und80 : Go.Abs.und Tryz.prog 80 = .struct #[⟨ "To", 3, 0, false, "", "", 0⟩, ⟨ "Body", 9, 1, false, "", "", 8⟩] := by kernel_rfl
@[go_sem] theorem Tryz.siz80 : Go.Abs.siz Tryz.prog 80 = some 2 := by kernel_rfl
@[go_sem] theorem Tryz.byt80 : Go.Abs.byt Tryz.prog 80 = some 24 := by kernel_rfl
@[go_sem] theorem Tryz.azero80 : Go.Abs.aZero Tryz.prog 80 = some (2, .agg [.v (.int .i64 0), .v (.string ByteArray.empty)]) := by kernel_rfl
@[go_sem] theorem Tryz.zer80 : Go.Abs.zer Tryz.prog 80 = some (.agg [.v (.int .i64 0), .v (.string ByteArray.empty)]) := by kernel_rfl
@[go_sem] theorem Tryz.plainSrc80 : Go.Abs.plainSrc Tryz.prog 80 = false := by kernel_rfl
@[go_sem] theorem Tryz.fld80_0 : Go.Abs.fld Tryz.prog 80 0 = some (0, 1, false) := by kernel_rfl
@[go_sem] theorem Tryz.fld80_1 : Go.Abs.fld Tryz.prog 80 1 = some (1, 1, false) := by kernel_rfl
@[go_sem] theorem Tryz.und81 : Go.Abs.und Tryz.prog 81 = .struct #[⟨ "To", 3, 0, false, "", "", 0⟩, ⟨ "Body", 9, 1, false, "", "", 8⟩] := by kernel_rfl
@[go_sem] theorem Tryz.siz81 : Go.Abs.siz Tryz.prog 81 = some 2 := by kernel_rfl
@[go_sem] theorem Tryz.byt81 : Go.Abs.byt Tryz.prog 81 = some 24 := by kernel_rfl
@[go_sem] theorem Tryz.azero81 : Go.Abs.aZero Tryz.prog 81 = some (2, .agg [.v (.int .i64 0), .v (.string ByteArray.empty)]) := by kernel_rfl
@[go_sem] theorem Tryz.zer81 : Go.Abs.zer Tryz.prog 81 = some (.agg [.v (.int .i64 0), .v (.string ByteArray.empty)]) := by kernel_rfl
@[go_sem] theorem Tryz.plainSrc81 : Go.Abs.plainSrc Tryz.prog 81 = false := by kernel_rfl
@[go_sem] theorem Tryz.fld81_0 : Go.Abs.fld Tryz.prog 81 0 = some (0, 1, false) := by kernel_rfl
@[go_sem] theorem Tryz.fld81_1 : Go.Abs.fld Tryz.prog 81 1 = some (1, 1, false) := by kernel_rfl
@[go_sem] theorem Tryz.und84 : Go.Abs.und Tryz.prog 84 = .struct #[⟨ "Client", 3, 0, false, "", "", 0⟩, ⟨ "Seq", 3, 1, false, "", "", 8⟩, ⟨ "Ops", 49, 2, false, "", "", 16⟩] := by kernel_rfl
@[go_sem] theorem Tryz.siz84 : Go.Abs.siz Tryz.prog 84 = some 3 := by kernel_rfl
@[go_sem] theorem Tryz.byt84 : Go.Abs.byt Tryz.prog 84 = some 40 := by kernel_rfl
@[go_sem] theorem Tryz.azero84 : Go.Abs.aZero Tryz.prog 84 = some (3, .agg [.v (.int .i64 0), .v (.int .i64 0), .v (.slice none 0 0)]) := by kernel_rfl
@[go_sem] theorem Tryz.zer84 : Go.Abs.zer Tryz.prog 84 = some (.agg [.v (.int .i64 0), .v (.int .i64 0), .v (.slice none 0 0)]) := by kernel_rfl
@[go_sem] theorem Tryz.plainSrc84 : Go.Abs.plainSrc Tryz.prog 84 = false := by kernel_rfl
@[go_sem] theorem Tryz.fld84_0 : Go.Abs.fld Tryz.prog 84 0 = some (0, 1, false) := by kernel_rfl
@[go_sem] theorem Tryz.fld84_1 : Go.Abs.fld Tryz.prog 84 1 = some (1, 1, false) := by kernel_rfl
@[go_sem] theorem Tryz.fld84_2 : Go.Abs.fld Tryz.prog 84 2 = some (2, 1, false) := by kernel_rfl
@[go_sem] theorem Tryz.und85 : Go.Abs.und Tryz.prog 85 = .struct #[⟨ "Client", 3, 0, false, "", "", 0⟩, ⟨ "Seq", 3, 1, false, "", "", 8⟩, ⟨ "Ops", 49, 2, false, "", "", 16⟩] := by kernel_rfl
@[go_sem] theorem Tryz.siz85 : Go.Abs.siz Tryz.prog 85 = some 3 := by kernel_rfl
@[go_sem] theorem Tryz.byt85 : Go.Abs.byt Tryz.prog 85 = some 40 := by kernel_rfl
@[go_sem] theorem Tryz.azero85 : Go.Abs.aZero Tryz.prog 85 = some (3, .agg [.v (.int .i64 0), .v (.int .i64 0), .v (.slice none 0 0)]) := by kernel_rfl
@[go_sem] theorem Tryz.zer85 : Go.Abs.zer Tryz.prog 85 = some (.agg [.v (.int .i64 0), .v (.int .i64 0), .v (.slice none 0 0)]) := by kernel_rfl
@[go_sem] theorem Tryz.plainSrc85 : Go.Abs.plainSrc Tryz.prog 85 = false := by kernel_rfl
@[go_sem] theorem Tryz.fld85_0 : Go.Abs.fld Tryz.prog 85 0 = some (0, 1, false) := by kernel_rfl
@[go_sem] theorem Tryz.fld85_1 : Go.Abs.fld Tryz.prog 85 1 = some (1, 1, false) := by kernel_rfl
@[go_sem] theorem Tryz.fld85_2 : Go.Abs.fld Tryz.prog 85 2 = some (2, 1, false) := by kernel_rfl
@[go_sem] theorem Tryz.und90 : Go.Abs.und Tryz.prog 90 = .slice 52 := by kernel_rfl
@[go_sem] theorem Tryz.siz90 : Go.Abs.siz Tryz.prog 90 = some 1 := by kernel_rfl
@[go_sem] theorem Tryz.byt90 : Go.Abs.byt Tryz.prog 90 = some 24 := by kernel_rfl
@[go_sem] theorem Tryz.azero90 : Go.Abs.aZero Tryz.prog 90 = some (1, .v (.slice none 0 0)) := by kernel_rfl
@[go_sem] theorem Tryz.zer90 : Go.Abs.zer Tryz.prog 90 = some (.v (.slice none 0 0)) := by kernel_rfl
@[go_sem] theorem Tryz.plainSrc90 : Go.Abs.plainSrc Tryz.prog 90 = true := by kernel_rfl
@[go_sem] theorem Tryz.und91 : Go.Abs.und Tryz.prog 91 = .struct #[⟨ "Was", 47, 0, false, "", "", 0⟩, ⟨ "Will", 47, 2, false, "", "", 32⟩, ⟨ "Cursor", 9, 4, false, "", "", 64⟩, ⟨ "Done", 4, 5, false, "", "", 80⟩, ⟨ "Rows", 90, 6, false, "", "", 88⟩] := by kernel_rfl
@[go_sem] theorem Tryz.siz91 : Go.Abs.siz Tryz.prog 91 = some 7 := by kernel_rfl
@[go_sem] theorem Tryz.byt91 : Go.Abs.byt Tryz.prog 91 = some 112 := by kernel_rfl
@[go_sem] theorem Tryz.azero91 : Go.Abs.aZero Tryz.prog 91 = some (7, .agg [.v (.int .i64 0), .v (.slice none 0 0), .v (.int .i64 0), .v (.slice none 0 0), .v (.string ByteArray.empty), .v (.bool false), .v (.slice none 0 0)]) := by kernel_rfl
@[go_sem] theorem Tryz.zer91 : Go.Abs.zer Tryz.prog 91 = some (.agg [.v (.int .i64 0), .v (.slice none 0 0), .v (.int .i64 0), .v (.slice none 0 0), .v (.string ByteArray.empty), .v (.bool false), .v (.slice none 0 0)]) := by kernel_rfl
@[go_sem] theorem Tryz.plainSrc91 : Go.Abs.plainSrc Tryz.prog 91 = false := by kernel_rfl
@[go_sem] theorem Tryz.fld91_0 : Go.Abs.fld Tryz.prog 91 0 = some (0, 2, true) := by kernel_rfl
@[go_sem] theorem Tryz.fld91_1 : Go.Abs.fld Tryz.prog 91 1 = some (2, 2, true) := by kernel_rfl
@[go_sem] theorem Tryz.fld91_2 : Go.Abs.fld Tryz.prog 91 2 = some (4, 1, false) := by kernel_rfl
@[go_sem] theorem Tryz.fld91_3 : Go.Abs.fld Tryz.prog 91 3 = some (5, 1, false) := by kernel_rfl
@[go_sem] theorem Tryz.fld91_4 : Go.Abs.fld Tryz.prog 91 4 = some (6, 1, false) := by kernel_rfl
@[go_sem] theorem Tryz.und92 : Go.Abs.und Tryz.prog 92 = .struct #[⟨ "Was", 47, 0, false, "", "", 0⟩, ⟨ "Will", 47, 2, false, "", "", 32⟩, ⟨ "Cursor", 9, 4, false, "", "", 64⟩, ⟨ "Done", 4, 5, false, "", "", 80⟩, ⟨ "Rows", 90, 6, false, "", "", 88⟩] := by kernel_rfl
@[go_sem] theorem Tryz.siz92 : Go.Abs.siz Tryz.prog 92 = some 7 := by kernel_rfl
@[go_sem] theorem Tryz.byt92 : Go.Abs.byt Tryz.prog 92 = some 112 := by kernel_rfl
@[go_sem] theorem Tryz.azero92 : Go.Abs.aZero Tryz.prog 92 = some (7, .agg [.v (.int .i64 0), .v (.slice none 0 0), .v (.int .i64 0), .v (.slice none 0 0), .v (.string ByteArray.empty), .v (.bool false), .v (.slice none 0 0)]) := by kernel_rfl
@[go_sem] theorem Tryz.zer92 : Go.Abs.zer Tryz.prog 92 = some (.agg [.v (.int .i64 0), .v (.slice none 0 0), .v (.int .i64 0), .v (.slice none 0 0), .v (.string ByteArray.empty), .v (.bool false), .v (.slice none 0 0)]) := by kernel_rfl
@[go_sem] theorem Tryz.plainSrc92 : Go.Abs.plainSrc Tryz.prog 92 = false := by kernel_rfl
@[go_sem] theorem Tryz.fld92_0 : Go.Abs.fld Tryz.prog 92 0 = some (0, 2, true) := by kernel_rfl
@[go_sem] theorem Tryz.fld92_1 : Go.Abs.fld Tryz.prog 92 1 = some (2, 2, true) := by kernel_rfl
@[go_sem] theorem Tryz.fld92_2 : Go.Abs.fld Tryz.prog 92 2 = some (4, 1, false) := by kernel_rfl
@[go_sem] theorem Tryz.fld92_3 : Go.Abs.fld Tryz.prog 92 3 = some (5, 1, false) := by kernel_rfl
@[go_sem] theorem Tryz.fld92_4 : Go.Abs.fld Tryz.prog 92 4 = some (6, 1, false) := by kernel_rfl
@[go_sem] theorem Tryz.und93 : Go.Abs.und Tryz.prog 93 = .struct #[⟨ "Was", 47, 0, false, "", "", 0⟩, ⟨ "Will", 47, 2, false, "", "", 32⟩, ⟨ "Cursor", 9, 4, false, "", "", 64⟩, ⟨ "Done", 4, 5, false, "", "", 80⟩] := by kernel_rfl
@[go_sem] theorem Tryz.siz93 : Go.Abs.siz Tryz.prog 93 = some 6 := by kernel_rfl
@[go_sem] theorem Tryz.byt93 : Go.Abs.byt Tryz.prog 93 = some 88 := by kernel_rfl
@[go_sem] theorem Tryz.azero93 : Go.Abs.aZero Tryz.prog 93 = some (6, .agg [.v (.int .i64 0), .v (.slice none 0 0), .v (.int .i64 0), .v (.slice none 0 0), .v (.string ByteArray.empty), .v (.bool false)]) := by kernel_rfl
@[go_sem] theorem Tryz.zer93 : Go.Abs.zer Tryz.prog 93 = some (.agg [.v (.int .i64 0), .v (.slice none 0 0), .v (.int .i64 0), .v (.slice none 0 0), .v (.string ByteArray.empty), .v (.bool false)]) := by kernel_rfl
@[go_sem] theorem Tryz.plainSrc93 : Go.Abs.plainSrc Tryz.prog 93 = false := by kernel_rfl
@[go_sem] theorem Tryz.fld93_0 : Go.Abs.fld Tryz.prog 93 0 = some (0, 2, true) := by kernel_rfl
@[go_sem] theorem Tryz.fld93_1 : Go.Abs.fld Tryz.prog 93 1 = some (2, 2, true) := by kernel_rfl
@[go_sem] theorem Tryz.fld93_2 : Go.Abs.fld Tryz.prog 93 2 = some (4, 1, false) := by kernel_rfl
@[go_sem] theorem Tryz.fld93_3 : Go.Abs.fld Tryz.prog 93 3 = some (5, 1, false) := by kernel_rfl
@[go_sem] theorem Tryz.und94 : Go.Abs.und Tryz.prog 94 = .struct #[⟨ "Was", 47, 0, false, "", "", 0⟩, ⟨ "Will", 47, 2, false, "", "", 32⟩, ⟨ "Cursor", 9, 4, false, "", "", 64⟩, ⟨ "Done", 4, 5, false, "", "", 80⟩] := by kernel_rfl
@[go_sem] theorem Tryz.siz94 : Go.Abs.siz Tryz.prog 94 = some 6 := by kernel_rfl
@[go_sem] theorem Tryz.byt94 : Go.Abs.byt Tryz.prog 94 = some 88 := by kernel_rfl
@[go_sem] theorem Tryz.azero94 : Go.Abs.aZero Tryz.prog 94 = some (6, .agg [.v (.int .i64 0), .v (.slice none 0 0), .v (.int .i64 0), .v (.slice none 0 0), .v (.string ByteArray.empty), .v (.bool false)]) := by kernel_rfl
@[go_sem] theorem Tryz.zer94 : Go.Abs.zer Tryz.prog 94 = some (.agg [.v (.int .i64 0), .v (.slice none 0 0), .v (.int .i64 0), .v (.slice none 0 0), .v (.string ByteArray.empty), .v (.bool false)]) := by kernel_rfl
@[go_sem] theorem Tryz.plainSrc94 : Go.Abs.plainSrc Tryz.prog 94 = false := by kernel_rfl
@[go_sem] theorem Tryz.fld94_0 : Go.Abs.fld Tryz.prog 94 0 = some (0, 2, true) := by kernel_rfl
@[go_sem] theorem Tryz.fld94_1 : Go.Abs.fld Tryz.prog 94 1 = some (2, 2, true) := by kernel_rfl
@[go_sem] theorem Tryz.fld94_2 : Go.Abs.fld Tryz.prog 94 2 = some (4, 1, false) := by kernel_rfl
@[go_sem] theorem Tryz.fld94_3 : Go.Abs.fld Tryz.prog 94 3 = some (5, 1, false) := by kernel_rfl
@[go_sem] theorem Tryz.und96 : Go.Abs.und Tryz.prog 96 = .slice 128 := by kernel_rfl
@[go_sem] theorem Tryz.siz96 : Go.Abs.siz Tryz.prog 96 = some 1 := by kernel_rfl
@[go_sem] theorem Tryz.byt96 : Go.Abs.byt Tryz.prog 96 = some 24 := by kernel_rfl
@[go_sem] theorem Tryz.azero96 : Go.Abs.aZero Tryz.prog 96 = some (1, .v (.slice none 0 0)) := by kernel_rfl
@[go_sem] theorem Tryz.zer96 : Go.Abs.zer Tryz.prog 96 = some (.v (.slice none 0 0)) := by kernel_rfl
@[go_sem] theorem Tryz.plainSrc96 : Go.Abs.plainSrc Tryz.prog 96 = true := by kernel_rfl
@[go_sem] theorem Tryz.und105 : Go.Abs.und Tryz.prog 105 = .int .u64 := by kernel_rfl
@[go_sem] theorem Tryz.siz105 : Go.Abs.siz Tryz.prog 105 = some 1 := by kernel_rfl
@[go_sem] theorem Tryz.byt105 : Go.Abs.byt Tryz.prog 105 = some 8 := by kernel_rfl
@[go_sem] theorem Tryz.azero105 : Go.Abs.aZero Tryz.prog 105 = some (1, .v (.int .u64 0)) := by kernel_rfl
@[go_sem] theorem Tryz.zer105 : Go.Abs.zer Tryz.prog 105 = some (.v (.int .u64 0)) := by kernel_rfl
@[go_sem] theorem Tryz.plainSrc105 : Go.Abs.plainSrc Tryz.prog 105 = false := by kernel_rfl
@[go_sem] theorem Tryz.und109 : Go.Abs.und Tryz.prog 109 = .slice 118 := by kernel_rfl
@[go_sem] theorem Tryz.siz109 : Go.Abs.siz Tryz.prog 109 = some 1 := by kernel_rfl
@[go_sem] theorem Tryz.byt109 : Go.Abs.byt Tryz.prog 109 = some 24 := by kernel_rfl
@[go_sem] theorem Tryz.azero109 : Go.Abs.aZero Tryz.prog 109 = some (1, .v (.slice none 0 0)) := by kernel_rfl
@[go_sem] theorem Tryz.zer109 : Go.Abs.zer Tryz.prog 109 = some (.v (.slice none 0 0)) := by kernel_rfl
@[go_sem] theorem Tryz.plainSrc109 : Go.Abs.plainSrc Tryz.prog 109 = true := by kernel_rfl
@[go_sem] theorem Tryz.und110 : Go.Abs.und Tryz.prog 110 = .slice 215 := by kernel_rfl
@[go_sem] theorem Tryz.siz110 : Go.Abs.siz Tryz.prog 110 = some 1 := by kernel_rfl
@[go_sem] theorem Tryz.byt110 : Go.Abs.byt Tryz.prog 110 = some 24 := by kernel_rfl
@[go_sem] theorem Tryz.azero110 : Go.Abs.aZero Tryz.prog 110 = some (1, .v (.slice none 0 0)) := by kernel_rfl
@[go_sem] theorem Tryz.zer110 : Go.Abs.zer Tryz.prog 110 = some (.v (.slice none 0 0)) := by kernel_rfl
@[go_sem] theorem Tryz.plainSrc110 : Go.Abs.plainSrc Tryz.prog 110 = true := by kernel_rfl
@[go_sem] theorem Tryz.und113 : Go.Abs.und Tryz.prog 113 = .struct #[⟨ "Was", 47, 0, false, "", "", 0⟩, ⟨ "Will", 47, 2, false, "", "", 32⟩, ⟨ "Cursor", 9, 4, false, "", "", 64⟩, ⟨ "Done", 4, 5, false, "", "", 80⟩] := by kernel_rfl
@[go_sem] theorem Tryz.siz113 : Go.Abs.siz Tryz.prog 113 = some 6 := by kernel_rfl
@[go_sem] theorem Tryz.byt113 : Go.Abs.byt Tryz.prog 113 = some 88 := by kernel_rfl
@[go_sem] theorem Tryz.azero113 : Go.Abs.aZero Tryz.prog 113 = some (6, .agg [.v (.int .i64 0), .v (.slice none 0 0), .v (.int .i64 0), .v (.slice none 0 0), .v (.string ByteArray.empty), .v (.bool false)]) := by kernel_rfl
@[go_sem] theorem Tryz.zer113 : Go.Abs.zer Tryz.prog 113 = some (.agg [.v (.int .i64 0), .v (.slice none 0 0), .v (.int .i64 0), .v (.slice none 0 0), .v (.string ByteArray.empty), .v (.bool false)]) := by kernel_rfl
@[go_sem] theorem Tryz.plainSrc113 : Go.Abs.plainSrc Tryz.prog 113 = false := by kernel_rfl
@[go_sem] theorem Tryz.fld113_0 : Go.Abs.fld Tryz.prog 113 0 = some (0, 2, true) := by kernel_rfl
@[go_sem] theorem Tryz.fld113_1 : Go.Abs.fld Tryz.prog 113 1 = some (2, 2, true) := by kernel_rfl
@[go_sem] theorem Tryz.fld113_2 : Go.Abs.fld Tryz.prog 113 2 = some (4, 1, false) := by kernel_rfl
@[go_sem] theorem Tryz.fld113_3 : Go.Abs.fld Tryz.prog 113 3 = some (5, 1, false) := by kernel_rfl
@[go_sem] theorem Tryz.und117 : Go.Abs.und Tryz.prog 117 = .struct #[⟨ "N", 3, 0, false, "", "", 0⟩, ⟨ "Ops", 49, 1, false, "", "", 8⟩] := by kernel_rfl
@[go_sem] theorem Tryz.siz117 : Go.Abs.siz Tryz.prog 117 = some 2 := by kernel_rfl
@[go_sem] theorem Tryz.byt117 : Go.Abs.byt Tryz.prog 117 = some 32 := by kernel_rfl
@[go_sem] theorem Tryz.azero117 : Go.Abs.aZero Tryz.prog 117 = some (2, .agg [.v (.int .i64 0), .v (.slice none 0 0)]) := by kernel_rfl
@[go_sem] theorem Tryz.zer117 : Go.Abs.zer Tryz.prog 117 = some (.agg [.v (.int .i64 0), .v (.slice none 0 0)]) := by kernel_rfl
@[go_sem] theorem Tryz.plainSrc117 : Go.Abs.plainSrc Tryz.prog 117 = false := by kernel_rfl
@[go_sem] theorem Tryz.fld117_0 : Go.Abs.fld Tryz.prog 117 0 = some (0, 1, false) := by kernel_rfl
@[go_sem] theorem Tryz.fld117_1 : Go.Abs.fld Tryz.prog 117 1 = some (1, 1, false) := by kernel_rfl
@[go_sem] theorem Tryz.und118 : Go.Abs.und Tryz.prog 118 = .struct #[⟨ "N", 3, 0, false, "", "", 0⟩, ⟨ "Ops", 49, 1, false, "", "", 8⟩] := by kernel_rfl
@[go_sem] theorem Tryz.siz118 : Go.Abs.siz Tryz.prog 118 = some 2 := by kernel_rfl
@[go_sem] theorem Tryz.byt118 : Go.Abs.byt Tryz.prog 118 = some 32 := by kernel_rfl
@[go_sem] theorem Tryz.azero118 : Go.Abs.aZero Tryz.prog 118 = some (2, .agg [.v (.int .i64 0), .v (.slice none 0 0)]) := by kernel_rfl
@[go_sem] theorem Tryz.zer118 : Go.Abs.zer Tryz.prog 118 = some (.agg [.v (.int .i64 0), .v (.slice none 0 0)]) := by kernel_rfl
@[go_sem] theorem Tryz.plainSrc118 : Go.Abs.plainSrc Tryz.prog 118 = false := by kernel_rfl
@[go_sem] theorem Tryz.fld118_0 : Go.Abs.fld Tryz.prog 118 0 = some (0, 1, false) := by kernel_rfl
@[go_sem] theorem Tryz.fld118_1 : Go.Abs.fld Tryz.prog 118 1 = some (1, 1, false) := by kernel_rfl
@[go_sem] theorem Tryz.und128 : Go.Abs.und Tryz.prog 128 = .pointer 225 := by kernel_rfl
@[go_sem] theorem Tryz.siz128 : Go.Abs.siz Tryz.prog 128 = some 1 := by kernel_rfl
@[go_sem] theorem Tryz.byt128 : Go.Abs.byt Tryz.prog 128 = some 8 := by kernel_rfl
@[go_sem] theorem Tryz.azero128 : Go.Abs.aZero Tryz.prog 128 = some (1, .v (.pointer none)) := by kernel_rfl
@[go_sem] theorem Tryz.zer128 : Go.Abs.zer Tryz.prog 128 = some (.v (.pointer none)) := by kernel_rfl
@[go_sem] theorem Tryz.plainSrc128 : Go.Abs.plainSrc Tryz.prog 128 = false := by kernel_rfl
@[go_sem] theorem Tryz.und134 : Go.Abs.und Tryz.prog 134 = .struct #[⟨ "From", 9, 0, false, "", "", 0⟩, ⟨ "To", 9, 1, false, "", "", 16⟩] := by kernel_rfl
@[go_sem] theorem Tryz.siz134 : Go.Abs.siz Tryz.prog 134 = some 2 := by kernel_rfl
@[go_sem] theorem Tryz.byt134 : Go.Abs.byt Tryz.prog 134 = some 32 := by kernel_rfl
@[go_sem] theorem Tryz.azero134 : Go.Abs.aZero Tryz.prog 134 = some (2, .agg [.v (.string ByteArray.empty), .v (.string ByteArray.empty)]) := by kernel_rfl
@[go_sem] theorem Tryz.zer134 : Go.Abs.zer Tryz.prog 134 = some (.agg [.v (.string ByteArray.empty), .v (.string ByteArray.empty)]) := by kernel_rfl
@[go_sem] theorem Tryz.plainSrc134 : Go.Abs.plainSrc Tryz.prog 134 = false := by kernel_rfl
@[go_sem] theorem Tryz.fld134_0 : Go.Abs.fld Tryz.prog 134 0 = some (0, 1, false) := by kernel_rfl
@[go_sem] theorem Tryz.fld134_1 : Go.Abs.fld Tryz.prog 134 1 = some (1, 1, false) := by kernel_rfl
@[go_sem] theorem Tryz.und135 : Go.Abs.und Tryz.prog 135 = .struct #[⟨ "From", 9, 0, false, "", "", 0⟩, ⟨ "To", 9, 1, false, "", "", 16⟩] := by kernel_rfl
@[go_sem] theorem Tryz.siz135 : Go.Abs.siz Tryz.prog 135 = some 2 := by kernel_rfl
@[go_sem] theorem Tryz.byt135 : Go.Abs.byt Tryz.prog 135 = some 32 := by kernel_rfl
@[go_sem] theorem Tryz.azero135 : Go.Abs.aZero Tryz.prog 135 = some (2, .agg [.v (.string ByteArray.empty), .v (.string ByteArray.empty)]) := by kernel_rfl
@[go_sem] theorem Tryz.zer135 : Go.Abs.zer Tryz.prog 135 = some (.agg [.v (.string ByteArray.empty), .v (.string ByteArray.empty)]) := by kernel_rfl
@[go_sem] theorem Tryz.plainSrc135 : Go.Abs.plainSrc Tryz.prog 135 = false := by kernel_rfl
@[go_sem] theorem Tryz.fld135_0 : Go.Abs.fld Tryz.prog 135 0 = some (0, 1, false) := by kernel_rfl
@[go_sem] theorem Tryz.fld135_1 : Go.Abs.fld Tryz.prog 135 1 = some (1, 1, false) := by kernel_rfl
@[go_sem] theorem Tryz.und137 : Go.Abs.und Tryz.prog 137 = .slice 140 := by kernel_rfl
@[go_sem] theorem Tryz.siz137 : Go.Abs.siz Tryz.prog 137 = some 1 := by kernel_rfl
@[go_sem] theorem Tryz.byt137 : Go.Abs.byt Tryz.prog 137 = some 24 := by kernel_rfl
@[go_sem] theorem Tryz.azero137 : Go.Abs.aZero Tryz.prog 137 = some (1, .v (.slice none 0 0)) := by kernel_rfl
@[go_sem] theorem Tryz.zer137 : Go.Abs.zer Tryz.prog 137 = some (.v (.slice none 0 0)) := by kernel_rfl
@[go_sem] theorem Tryz.plainSrc137 : Go.Abs.plainSrc Tryz.prog 137 = true := by kernel_rfl
@[go_sem] theorem Tryz.und139 : Go.Abs.und Tryz.prog 139 = .struct #[⟨ "state", 3, 0, false, "", "skylark/admin", 0⟩, ⟨ "chain", 3, 1, false, "", "skylark/admin", 8⟩] := by kernel_rfl
@[go_sem] theorem Tryz.siz139 : Go.Abs.siz Tryz.prog 139 = some 2 := by kernel_rfl
@[go_sem] theorem Tryz.byt139 : Go.Abs.byt Tryz.prog 139 = some 16 := by kernel_rfl
@[go_sem] theorem Tryz.azero139 : Go.Abs.aZero Tryz.prog 139 = some (2, .agg [.v (.int .i64 0), .v (.int .i64 0)]) := by kernel_rfl
@[go_sem] theorem Tryz.zer139 : Go.Abs.zer Tryz.prog 139 = some (.agg [.v (.int .i64 0), .v (.int .i64 0)]) := by kernel_rfl
@[go_sem] theorem Tryz.plainSrc139 : Go.Abs.plainSrc Tryz.prog 139 = false := by kernel_rfl
@[go_sem] theorem Tryz.fld139_0 : Go.Abs.fld Tryz.prog 139 0 = some (0, 1, false) := by kernel_rfl
@[go_sem] theorem Tryz.fld139_1 : Go.Abs.fld Tryz.prog 139 1 = some (1, 1, false) := by kernel_rfl
@[go_sem] theorem Tryz.und140 : Go.Abs.und Tryz.prog 140 = .struct #[⟨ "state", 3, 0, false, "", "skylark/admin", 0⟩, ⟨ "chain", 3, 1, false, "", "skylark/admin", 8⟩] := by kernel_rfl
@[go_sem] theorem Tryz.siz140 : Go.Abs.siz Tryz.prog 140 = some 2 := by kernel_rfl
@[go_sem] theorem Tryz.byt140 : Go.Abs.byt Tryz.prog 140 = some 16 := by kernel_rfl
@[go_sem] theorem Tryz.azero140 : Go.Abs.aZero Tryz.prog 140 = some (2, .agg [.v (.int .i64 0), .v (.int .i64 0)]) := by kernel_rfl
@[go_sem] theorem Tryz.zer140 : Go.Abs.zer Tryz.prog 140 = some (.agg [.v (.int .i64 0), .v (.int .i64 0)]) := by kernel_rfl
@[go_sem] theorem Tryz.plainSrc140 : Go.Abs.plainSrc Tryz.prog 140 = false := by kernel_rfl
@[go_sem] theorem Tryz.fld140_0 : Go.Abs.fld Tryz.prog 140 0 = some (0, 1, false) := by kernel_rfl
@[go_sem] theorem Tryz.fld140_1 : Go.Abs.fld Tryz.prog 140 1 = some (1, 1, false) := by kernel_rfl
@[go_sem] theorem Tryz.und141 : Go.Abs.und Tryz.prog 141 = .slice 158 := by kernel_rfl
@[go_sem] theorem Tryz.siz141 : Go.Abs.siz Tryz.prog 141 = some 1 := by kernel_rfl
@[go_sem] theorem Tryz.byt141 : Go.Abs.byt Tryz.prog 141 = some 24 := by kernel_rfl
@[go_sem] theorem Tryz.azero141 : Go.Abs.aZero Tryz.prog 141 = some (1, .v (.slice none 0 0)) := by kernel_rfl
@[go_sem] theorem Tryz.zer141 : Go.Abs.zer Tryz.prog 141 = some (.v (.slice none 0 0)) := by kernel_rfl
@[go_sem] theorem Tryz.plainSrc141 : Go.Abs.plainSrc Tryz.prog 141 = true := by kernel_rfl
@[go_sem] theorem Tryz.und142 : Go.Abs.und Tryz.prog 142 = .pointer 94 := by kernel_rfl
@[go_sem] theorem Tryz.siz142 : Go.Abs.siz Tryz.prog 142 = some 1 := by kernel_rfl
@[go_sem] theorem Tryz.byt142 : Go.Abs.byt Tryz.prog 142 = some 8 := by kernel_rfl
@[go_sem] theorem Tryz.azero142 : Go.Abs.aZero Tryz.prog 142 = some (1, .v (.pointer none)) := by kernel_rfl
@[go_sem] theorem Tryz.zer142 : Go.Abs.zer Tryz.prog 142 = some (.v (.pointer none)) := by kernel_rfl
@[go_sem] theorem Tryz.plainSrc142 : Go.Abs.plainSrc Tryz.prog 142 = false := by kernel_rfl
@[go_sem] theorem Tryz.und143 : Go.Abs.und Tryz.prog 143 = .struct #[⟨ "bricks", 137, 0, false, "", "skylark/admin", 0⟩, ⟨ "chains", 141, 1, false, "", "skylark/admin", 24⟩, ⟨ "layout", 47, 2, false, "", "skylark/admin", 48⟩, ⟨ "change", 142, 4, false, "", "skylark/admin", 80⟩] := by kernel_rfl
@[go_sem] theorem Tryz.siz143 : Go.Abs.siz Tryz.prog 143 = some 5 := by kernel_rfl
@[go_sem] theorem Tryz.byt143 : Go.Abs.byt Tryz.prog 143 = some 88 := by kernel_rfl
@[go_sem] theorem Tryz.azero143 : Go.Abs.aZero Tryz.prog 143 = some (5, .agg [.v (.slice none 0 0), .v (.slice none 0 0), .v (.int .i64 0), .v (.slice none 0 0), .v (.pointer none)]) := by kernel_rfl
@[go_sem] theorem Tryz.zer143 : Go.Abs.zer Tryz.prog 143 = some (.agg [.v (.slice none 0 0), .v (.slice none 0 0), .v (.int .i64 0), .v (.slice none 0 0), .v (.pointer none)]) := by kernel_rfl
@[go_sem] theorem Tryz.plainSrc143 : Go.Abs.plainSrc Tryz.prog 143 = false := by kernel_rfl
@[go_sem] theorem Tryz.fld143_0 : Go.Abs.fld Tryz.prog 143 0 = some (0, 1, false) := by kernel_rfl
@[go_sem] theorem Tryz.fld143_1 : Go.Abs.fld Tryz.prog 143 1 = some (1, 1, false) := by kernel_rfl
@[go_sem] theorem Tryz.fld143_2 : Go.Abs.fld Tryz.prog 143 2 = some (2, 2, true) := by kernel_rfl
@[go_sem] theorem Tryz.fld143_3 : Go.Abs.fld Tryz.prog 143 3 = some (4, 1, false) := by kernel_rfl
@[go_sem] theorem Tryz.und144 : Go.Abs.und Tryz.prog 144 = .struct #[⟨ "bricks", 137, 0, false, "", "skylark/admin", 0⟩, ⟨ "chains", 141, 1, false, "", "skylark/admin", 24⟩, ⟨ "layout", 47, 2, false, "", "skylark/admin", 48⟩, ⟨ "change", 142, 4, false, "", "skylark/admin", 80⟩] := by kernel_rfl
@[go_sem] theorem Tryz.siz144 : Go.Abs.siz Tryz.prog 144 = some 5 := by kernel_rfl
@[go_sem] theorem Tryz.byt144 : Go.Abs.byt Tryz.prog 144 = some 88 := by kernel_rfl
@[go_sem] theorem Tryz.azero144 : Go.Abs.aZero Tryz.prog 144 = some (5, .agg [.v (.slice none 0 0), .v (.slice none 0 0), .v (.int .i64 0), .v (.slice none 0 0), .v (.pointer none)]) := by kernel_rfl
@[go_sem] theorem Tryz.zer144 : Go.Abs.zer Tryz.prog 144 = some (.agg [.v (.slice none 0 0), .v (.slice none 0 0), .v (.int .i64 0), .v (.slice none 0 0), .v (.pointer none)]) := by kernel_rfl
@[go_sem] theorem Tryz.plainSrc144 : Go.Abs.plainSrc Tryz.prog 144 = false := by kernel_rfl
@[go_sem] theorem Tryz.fld144_0 : Go.Abs.fld Tryz.prog 144 0 = some (0, 1, false) := by kernel_rfl
@[go_sem] theorem Tryz.fld144_1 : Go.Abs.fld Tryz.prog 144 1 = some (1, 1, false) := by kernel_rfl
@[go_sem] theorem Tryz.fld144_2 : Go.Abs.fld Tryz.prog 144 2 = some (2, 2, true) := by kernel_rfl
@[go_sem] theorem Tryz.fld144_3 : Go.Abs.fld Tryz.prog 144 3 = some (4, 1, false) := by kernel_rfl
@[go_sem] theorem Tryz.und145 : Go.Abs.und Tryz.prog 145 = .slice 149 := by kernel_rfl
@[go_sem] theorem Tryz.siz145 : Go.Abs.siz Tryz.prog 145 = some 1 := by kernel_rfl
@[go_sem] theorem Tryz.byt145 : Go.Abs.byt Tryz.prog 145 = some 24 := by kernel_rfl
@[go_sem] theorem Tryz.azero145 : Go.Abs.aZero Tryz.prog 145 = some (1, .v (.slice none 0 0)) := by kernel_rfl
@[go_sem] theorem Tryz.zer145 : Go.Abs.zer Tryz.prog 145 = some (.v (.slice none 0 0)) := by kernel_rfl
@[go_sem] theorem Tryz.plainSrc145 : Go.Abs.plainSrc Tryz.prog 145 = true := by kernel_rfl
@[go_sem] theorem Tryz.und146 : Go.Abs.und Tryz.prog 146 = .struct #[⟨ "B", 145, 0, false, "", "", 0⟩, ⟨ "C", 141, 1, false, "", "", 24⟩, ⟨ "L", 47, 2, false, "", "", 48⟩, ⟨ "Going", 4, 4, false, "", "", 80⟩, ⟨ "Ch", 113, 5, false, "", "", 88⟩] := by kernel_rfl
@[go_sem] theorem Tryz.siz146 : Go.Abs.siz Tryz.prog 146 = some 11 := by kernel_rfl
@[go_sem] theorem Tryz.byt146 : Go.Abs.byt Tryz.prog 146 = some 176 := by kernel_rfl
@[go_sem] theorem Tryz.azero146 : Go.Abs.aZero Tryz.prog 146 = some (11, .agg [.v (.slice none 0 0), .v (.slice none 0 0), .v (.int .i64 0), .v (.slice none 0 0), .v (.bool false), .v (.int .i64 0), .v (.slice none 0 0), .v (.int .i64 0), .v (.slice none 0 0), .v (.string ByteArray.empty), .v (.bool false)]) := by kernel_rfl
@[go_sem] theorem Tryz.zer146 : Go.Abs.zer Tryz.prog 146 = some (.agg [.v (.slice none 0 0), .v (.slice none 0 0), .v (.int .i64 0), .v (.slice none 0 0), .v (.bool false), .v (.int .i64 0), .v (.slice none 0 0), .v (.int .i64 0), .v (.slice none 0 0), .v (.string ByteArray.empty), .v (.bool false)]) := by kernel_rfl
@[go_sem] theorem Tryz.plainSrc146 : Go.Abs.plainSrc Tryz.prog 146 = false := by kernel_rfl
@[go_sem] theorem Tryz.fld146_0 : Go.Abs.fld Tryz.prog 146 0 = some (0, 1, false) := by kernel_rfl
@[go_sem] theorem Tryz.fld146_1 : Go.Abs.fld Tryz.prog 146 1 = some (1, 1, false) := by kernel_rfl
@[go_sem] theorem Tryz.fld146_2 : Go.Abs.fld Tryz.prog 146 2 = some (2, 2, true) := by kernel_rfl
@[go_sem] theorem Tryz.fld146_3 : Go.Abs.fld Tryz.prog 146 3 = some (4, 1, false) := by kernel_rfl
@[go_sem] theorem Tryz.fld146_4 : Go.Abs.fld Tryz.prog 146 4 = some (5, 6, true) := by kernel_rfl
@[go_sem] theorem Tryz.und147 : Go.Abs.und Tryz.prog 147 = .struct #[⟨ "B", 145, 0, false, "", "", 0⟩, ⟨ "C", 141, 1, false, "", "", 24⟩, ⟨ "L", 47, 2, false, "", "", 48⟩, ⟨ "Going", 4, 4, false, "", "", 80⟩, ⟨ "Ch", 113, 5, false, "", "", 88⟩] := by kernel_rfl
@[go_sem] theorem Tryz.siz147 : Go.Abs.siz Tryz.prog 147 = some 11 := by kernel_rfl
@[go_sem] theorem Tryz.byt147 : Go.Abs.byt Tryz.prog 147 = some 176 := by kernel_rfl
@[go_sem] theorem Tryz.azero147 : Go.Abs.aZero Tryz.prog 147 = some (11, .agg [.v (.slice none 0 0), .v (.slice none 0 0), .v (.int .i64 0), .v (.slice none 0 0), .v (.bool false), .v (.int .i64 0), .v (.slice none 0 0), .v (.int .i64 0), .v (.slice none 0 0), .v (.string ByteArray.empty), .v (.bool false)]) := by kernel_rfl
@[go_sem] theorem Tryz.zer147 : Go.Abs.zer Tryz.prog 147 = some (.agg [.v (.slice none 0 0), .v (.slice none 0 0), .v (.int .i64 0), .v (.slice none 0 0), .v (.bool false), .v (.int .i64 0), .v (.slice none 0 0), .v (.int .i64 0), .v (.slice none 0 0), .v (.string ByteArray.empty), .v (.bool false)]) := by kernel_rfl
@[go_sem] theorem Tryz.plainSrc147 : Go.Abs.plainSrc Tryz.prog 147 = false := by kernel_rfl
@[go_sem] theorem Tryz.fld147_0 : Go.Abs.fld Tryz.prog 147 0 = some (0, 1, false) := by kernel_rfl
@[go_sem] theorem Tryz.fld147_1 : Go.Abs.fld Tryz.prog 147 1 = some (1, 1, false) := by kernel_rfl
@[go_sem] theorem Tryz.fld147_2 : Go.Abs.fld Tryz.prog 147 2 = some (2, 2, true) := by kernel_rfl
@[go_sem] theorem Tryz.fld147_3 : Go.Abs.fld Tryz.prog 147 3 = some (4, 1, false) := by kernel_rfl
@[go_sem] theorem Tryz.fld147_4 : Go.Abs.fld Tryz.prog 147 4 = some (5, 6, true) := by kernel_rfl
@[go_sem] theorem Tryz.und148 : Go.Abs.und Tryz.prog 148 = .struct #[⟨ "State", 3, 0, false, "", "", 0⟩, ⟨ "Chain", 3, 1, false, "", "", 8⟩] := by kernel_rfl
@[go_sem] theorem Tryz.siz148 : Go.Abs.siz Tryz.prog 148 = some 2 := by kernel_rfl
@[go_sem] theorem Tryz.byt148 : Go.Abs.byt Tryz.prog 148 = some 16 := by kernel_rfl
@[go_sem] theorem Tryz.azero148 : Go.Abs.aZero Tryz.prog 148 = some (2, .agg [.v (.int .i64 0), .v (.int .i64 0)]) := by kernel_rfl
@[go_sem] theorem Tryz.zer148 : Go.Abs.zer Tryz.prog 148 = some (.agg [.v (.int .i64 0), .v (.int .i64 0)]) := by kernel_rfl
@[go_sem] theorem Tryz.plainSrc148 : Go.Abs.plainSrc Tryz.prog 148 = false := by kernel_rfl
@[go_sem] theorem Tryz.fld148_0 : Go.Abs.fld Tryz.prog 148 0 = some (0, 1, false) := by kernel_rfl
@[go_sem] theorem Tryz.fld148_1 : Go.Abs.fld Tryz.prog 148 1 = some (1, 1, false) := by kernel_rfl
@[go_sem] theorem Tryz.und149 : Go.Abs.und Tryz.prog 149 = .struct #[⟨ "State", 3, 0, false, "", "", 0⟩, ⟨ "Chain", 3, 1, false, "", "", 8⟩] := by kernel_rfl
@[go_sem] theorem Tryz.siz149 : Go.Abs.siz Tryz.prog 149 = some 2 := by kernel_rfl
@[go_sem] theorem Tryz.byt149 : Go.Abs.byt Tryz.prog 149 = some 16 := by kernel_rfl
@[go_sem] theorem Tryz.azero149 : Go.Abs.aZero Tryz.prog 149 = some (2, .agg [.v (.int .i64 0), .v (.int .i64 0)]) := by kernel_rfl
@[go_sem] theorem Tryz.zer149 : Go.Abs.zer Tryz.prog 149 = some (.agg [.v (.int .i64 0), .v (.int .i64 0)]) := by kernel_rfl
@[go_sem] theorem Tryz.plainSrc149 : Go.Abs.plainSrc Tryz.prog 149 = false := by kernel_rfl
@[go_sem] theorem Tryz.fld149_0 : Go.Abs.fld Tryz.prog 149 0 = some (0, 1, false) := by kernel_rfl
@[go_sem] theorem Tryz.fld149_1 : Go.Abs.fld Tryz.prog 149 1 = some (1, 1, false) := by kernel_rfl
@[go_sem] theorem Tryz.und150 : Go.Abs.und Tryz.prog 150 = .slice 154 := by kernel_rfl
@[go_sem] theorem Tryz.siz150 : Go.Abs.siz Tryz.prog 150 = some 1 := by kernel_rfl
@[go_sem] theorem Tryz.byt150 : Go.Abs.byt Tryz.prog 150 = some 24 := by kernel_rfl
@[go_sem] theorem Tryz.azero150 : Go.Abs.aZero Tryz.prog 150 = some (1, .v (.slice none 0 0)) := by kernel_rfl
@[go_sem] theorem Tryz.zer150 : Go.Abs.zer Tryz.prog 150 = some (.v (.slice none 0 0)) := by kernel_rfl
@[go_sem] theorem Tryz.plainSrc150 : Go.Abs.plainSrc Tryz.prog 150 = true := by kernel_rfl
@[go_sem] theorem Tryz.und153 : Go.Abs.und Tryz.prog 153 = .struct #[⟨ "chain", 4, 0, false, "", "skylark/admin", 0⟩, ⟨ "brick", 4, 1, false, "", "skylark/admin", 1⟩, ⟨ "epoch", 4, 2, false, "", "skylark/admin", 2⟩, ⟨ "list", 4, 3, false, "", "skylark/admin", 3⟩, ⟨ "cursor", 4, 4, false, "", "skylark/admin", 4⟩, ⟨ "do", 152, 5, false, "", "skylark/admin", 8⟩] := by kernel_rfl
@[go_sem] theorem Tryz.siz153 : Go.Abs.siz Tryz.prog 153 = some 6 := by kernel_rfl
@[go_sem] theorem Tryz.byt153 : Go.Abs.byt Tryz.prog 153 = some 16 := by kernel_rfl
@[go_sem] theorem Tryz.azero153 : Go.Abs.aZero Tryz.prog 153 = some (6, .agg [.v (.bool false), .v (.bool false), .v (.bool false), .v (.bool false), .v (.bool false), .v (.nilFunc)]) := by kernel_rfl
@[go_sem] theorem Tryz.zer153 : Go.Abs.zer Tryz.prog 153 = some (.agg [.v (.bool false), .v (.bool false), .v (.bool false), .v (.bool false), .v (.bool false), .v (.nilFunc)]) := by kernel_rfl
@[go_sem] theorem Tryz.plainSrc153 : Go.Abs.plainSrc Tryz.prog 153 = false := by kernel_rfl
@[go_sem] theorem Tryz.fld153_0 : Go.Abs.fld Tryz.prog 153 0 = some (0, 1, false) := by kernel_rfl
@[go_sem] theorem Tryz.fld153_1 : Go.Abs.fld Tryz.prog 153 1 = some (1, 1, false) := by kernel_rfl
@[go_sem] theorem Tryz.fld153_2 : Go.Abs.fld Tryz.prog 153 2 = some (2, 1, false) := by kernel_rfl
@[go_sem] theorem Tryz.fld153_3 : Go.Abs.fld Tryz.prog 153 3 = some (3, 1, false) := by kernel_rfl
@[go_sem] theorem Tryz.fld153_4 : Go.Abs.fld Tryz.prog 153 4 = some (4, 1, false) := by kernel_rfl
@[go_sem] theorem Tryz.fld153_5 : Go.Abs.fld Tryz.prog 153 5 = some (5, 1, false) := by kernel_rfl
@[go_sem] theorem Tryz.und154 : Go.Abs.und Tryz.prog 154 = .struct #[⟨ "chain", 4, 0, false, "", "skylark/admin", 0⟩, ⟨ "brick", 4, 1, false, "", "skylark/admin", 1⟩, ⟨ "epoch", 4, 2, false, "", "skylark/admin", 2⟩, ⟨ "list", 4, 3, false, "", "skylark/admin", 3⟩, ⟨ "cursor", 4, 4, false, "", "skylark/admin", 4⟩, ⟨ "do", 152, 5, false, "", "skylark/admin", 8⟩] := by kernel_rfl
@[go_sem] theorem Tryz.siz154 : Go.Abs.siz Tryz.prog 154 = some 6 := by kernel_rfl
@[go_sem] theorem Tryz.byt154 : Go.Abs.byt Tryz.prog 154 = some 16 := by kernel_rfl
@[go_sem] theorem Tryz.azero154 : Go.Abs.aZero Tryz.prog 154 = some (6, .agg [.v (.bool false), .v (.bool false), .v (.bool false), .v (.bool false), .v (.bool false), .v (.nilFunc)]) := by kernel_rfl
@[go_sem] theorem Tryz.zer154 : Go.Abs.zer Tryz.prog 154 = some (.agg [.v (.bool false), .v (.bool false), .v (.bool false), .v (.bool false), .v (.bool false), .v (.nilFunc)]) := by kernel_rfl
@[go_sem] theorem Tryz.plainSrc154 : Go.Abs.plainSrc Tryz.prog 154 = false := by kernel_rfl
@[go_sem] theorem Tryz.fld154_0 : Go.Abs.fld Tryz.prog 154 0 = some (0, 1, false) := by kernel_rfl
@[go_sem] theorem Tryz.fld154_1 : Go.Abs.fld Tryz.prog 154 1 = some (1, 1, false) := by kernel_rfl
@[go_sem] theorem Tryz.fld154_2 : Go.Abs.fld Tryz.prog 154 2 = some (2, 1, false) := by kernel_rfl
@[go_sem] theorem Tryz.fld154_3 : Go.Abs.fld Tryz.prog 154 3 = some (3, 1, false) := by kernel_rfl
@[go_sem] theorem Tryz.fld154_4 : Go.Abs.fld Tryz.prog 154 4 = some (4, 1, false) := by kernel_rfl
@[go_sem] theorem Tryz.fld154_5 : Go.Abs.fld Tryz.prog 154 5 = some (5, 1, false) := by kernel_rfl
@[go_sem] theorem Tryz.und157 : Go.Abs.und Tryz.prog 157 = .struct #[⟨ "Epoch", 3, 0, false, "", "", 0⟩, ⟨ "Order", 31, 1, false, "", "", 8⟩, ⟨ "Repair", 31, 2, false, "", "", 32⟩] := by kernel_rfl
@[go_sem] theorem Tryz.siz157 : Go.Abs.siz Tryz.prog 157 = some 3 := by kernel_rfl
@[go_sem] theorem Tryz.byt157 : Go.Abs.byt Tryz.prog 157 = some 56 := by kernel_rfl
@[go_sem] theorem Tryz.azero157 : Go.Abs.aZero Tryz.prog 157 = some (3, .agg [.v (.int .i64 0), .v (.slice none 0 0), .v (.slice none 0 0)]) := by kernel_rfl
@[go_sem] theorem Tryz.zer157 : Go.Abs.zer Tryz.prog 157 = some (.agg [.v (.int .i64 0), .v (.slice none 0 0), .v (.slice none 0 0)]) := by kernel_rfl
@[go_sem] theorem Tryz.plainSrc157 : Go.Abs.plainSrc Tryz.prog 157 = false := by kernel_rfl
@[go_sem] theorem Tryz.fld157_0 : Go.Abs.fld Tryz.prog 157 0 = some (0, 1, false) := by kernel_rfl
@[go_sem] theorem Tryz.fld157_1 : Go.Abs.fld Tryz.prog 157 1 = some (1, 1, false) := by kernel_rfl
@[go_sem] theorem Tryz.fld157_2 : Go.Abs.fld Tryz.prog 157 2 = some (2, 1, false) := by kernel_rfl
@[go_sem] theorem Tryz.und158 : Go.Abs.und Tryz.prog 158 = .struct #[⟨ "Epoch", 3, 0, false, "", "", 0⟩, ⟨ "Order", 31, 1, false, "", "", 8⟩, ⟨ "Repair", 31, 2, false, "", "", 32⟩] := by kernel_rfl
@[go_sem] theorem Tryz.siz158 : Go.Abs.siz Tryz.prog 158 = some 3 := by kernel_rfl
@[go_sem] theorem Tryz.byt158 : Go.Abs.byt Tryz.prog 158 = some 56 := by kernel_rfl
@[go_sem] theorem Tryz.azero158 : Go.Abs.aZero Tryz.prog 158 = some (3, .agg [.v (.int .i64 0), .v (.slice none 0 0), .v (.slice none 0 0)]) := by kernel_rfl
@[go_sem] theorem Tryz.zer158 : Go.Abs.zer Tryz.prog 158 = some (.agg [.v (.int .i64 0), .v (.slice none 0 0), .v (.slice none 0 0)]) := by kernel_rfl
@[go_sem] theorem Tryz.plainSrc158 : Go.Abs.plainSrc Tryz.prog 158 = false := by kernel_rfl
@[go_sem] theorem Tryz.fld158_0 : Go.Abs.fld Tryz.prog 158 0 = some (0, 1, false) := by kernel_rfl
@[go_sem] theorem Tryz.fld158_1 : Go.Abs.fld Tryz.prog 158 1 = some (1, 1, false) := by kernel_rfl
@[go_sem] theorem Tryz.fld158_2 : Go.Abs.fld Tryz.prog 158 2 = some (2, 1, false) := by kernel_rfl
@[go_sem] theorem Tryz.und165 : Go.Abs.und Tryz.prog 165 = .struct #[⟨ "c", 33, 0, false, "", "skylark/skylarklaw18", 0⟩, ⟨ "order", 31, 6, false, "", "skylark/skylarklaw18", 72⟩, ⟨ "repair", 31, 7, false, "", "skylark/skylarklaw18", 96⟩] := by kernel_rfl
@[go_sem] theorem Tryz.siz165 : Go.Abs.siz Tryz.prog 165 = some 8 := by kernel_rfl
@[go_sem] theorem Tryz.byt165 : Go.Abs.byt Tryz.prog 165 = some 120 := by kernel_rfl
@[go_sem] theorem Tryz.azero165 : Go.Abs.aZero Tryz.prog 165 = some (8, .agg [.v (.int .i64 0), .v (.int .i64 0), .v (.int .i64 0), .v (.int .i64 0), .v (.slice none 0 0), .v (.string ByteArray.empty), .v (.slice none 0 0), .v (.slice none 0 0)]) := by kernel_rfl
@[go_sem] theorem Tryz.zer165 : Go.Abs.zer Tryz.prog 165 = some (.agg [.v (.int .i64 0), .v (.int .i64 0), .v (.int .i64 0), .v (.int .i64 0), .v (.slice none 0 0), .v (.string ByteArray.empty), .v (.slice none 0 0), .v (.slice none 0 0)]) := by kernel_rfl
@[go_sem] theorem Tryz.plainSrc165 : Go.Abs.plainSrc Tryz.prog 165 = false := by kernel_rfl
@[go_sem] theorem Tryz.fld165_0 : Go.Abs.fld Tryz.prog 165 0 = some (0, 6, true) := by kernel_rfl
@[go_sem] theorem Tryz.fld165_1 : Go.Abs.fld Tryz.prog 165 1 = some (6, 1, false) := by kernel_rfl
@[go_sem] theorem Tryz.fld165_2 : Go.Abs.fld Tryz.prog 165 2 = some (7, 1, false) := by kernel_rfl
@[go_sem] theorem Tryz.und166 : Go.Abs.und Tryz.prog 166 = .slice 165 := by kernel_rfl
@[go_sem] theorem Tryz.siz166 : Go.Abs.siz Tryz.prog 166 = some 1 := by kernel_rfl
@[go_sem] theorem Tryz.byt166 : Go.Abs.byt Tryz.prog 166 = some 24 := by kernel_rfl
@[go_sem] theorem Tryz.azero166 : Go.Abs.aZero Tryz.prog 166 = some (1, .v (.slice none 0 0)) := by kernel_rfl
@[go_sem] theorem Tryz.zer166 : Go.Abs.zer Tryz.prog 166 = some (.v (.slice none 0 0)) := by kernel_rfl
@[go_sem] theorem Tryz.plainSrc166 : Go.Abs.plainSrc Tryz.prog 166 = true := by kernel_rfl
@[go_sem] theorem Tryz.und168 : Go.Abs.und Tryz.prog 168 = .struct #[⟨ "waits", 4, 0, false, "", "skylark/client", 0⟩, ⟨ "there", 4, 1, false, "", "skylark/client", 1⟩] := by kernel_rfl
@[go_sem] theorem Tryz.siz168 : Go.Abs.siz Tryz.prog 168 = some 2 := by kernel_rfl
@[go_sem] theorem Tryz.byt168 : Go.Abs.byt Tryz.prog 168 = some 2 := by kernel_rfl
@[go_sem] theorem Tryz.azero168 : Go.Abs.aZero Tryz.prog 168 = some (2, .agg [.v (.bool false), .v (.bool false)]) := by kernel_rfl
@[go_sem] theorem Tryz.zer168 : Go.Abs.zer Tryz.prog 168 = some (.agg [.v (.bool false), .v (.bool false)]) := by kernel_rfl
@[go_sem] theorem Tryz.plainSrc168 : Go.Abs.plainSrc Tryz.prog 168 = false := by kernel_rfl
@[go_sem] theorem Tryz.fld168_0 : Go.Abs.fld Tryz.prog 168 0 = some (0, 1, false) := by kernel_rfl
@[go_sem] theorem Tryz.fld168_1 : Go.Abs.fld Tryz.prog 168 1 = some (1, 1, false) := by kernel_rfl
@[go_sem] theorem Tryz.und169 : Go.Abs.und Tryz.prog 169 = .struct #[⟨ "waits", 4, 0, false, "", "skylark/client", 0⟩, ⟨ "there", 4, 1, false, "", "skylark/client", 1⟩] := by kernel_rfl
@[go_sem] theorem Tryz.siz169 : Go.Abs.siz Tryz.prog 169 = some 2 := by kernel_rfl
@[go_sem] theorem Tryz.byt169 : Go.Abs.byt Tryz.prog 169 = some 2 := by kernel_rfl
@[go_sem] theorem Tryz.azero169 : Go.Abs.aZero Tryz.prog 169 = some (2, .agg [.v (.bool false), .v (.bool false)]) := by kernel_rfl
@[go_sem] theorem Tryz.zer169 : Go.Abs.zer Tryz.prog 169 = some (.agg [.v (.bool false), .v (.bool false)]) := by kernel_rfl
@[go_sem] theorem Tryz.plainSrc169 : Go.Abs.plainSrc Tryz.prog 169 = false := by kernel_rfl
@[go_sem] theorem Tryz.fld169_0 : Go.Abs.fld Tryz.prog 169 0 = some (0, 1, false) := by kernel_rfl
@[go_sem] theorem Tryz.fld169_1 : Go.Abs.fld Tryz.prog 169 1 = some (1, 1, false) := by kernel_rfl
@[go_sem] theorem Tryz.und170 : Go.Abs.und Tryz.prog 170 = .struct #[⟨ "id", 3, 0, false, "", "skylark/client", 0⟩, ⟨ "patience", 3, 1, false, "", "skylark/client", 8⟩, ⟨ "tries", 3, 2, false, "", "skylark/client", 16⟩, ⟨ "l", 47, 3, false, "", "skylark/client", 24⟩, ⟨ "now", 3, 5, false, "", "skylark/client", 56⟩, ⟨ "seq", 3, 6, false, "", "skylark/client", 64⟩, ⟨ "tried", 3, 7, false, "", "skylark/client", 72⟩, ⟨ "sent", 3, 8, false, "", "skylark/client", 80⟩, ⟨ "at", 169, 9, false, "", "skylark/client", 88⟩, ⟨ "r", 85, 11, false, "", "skylark/client", 96⟩, ⟨ "p", 59, 14, false, "", "skylark/client", 136⟩, ⟨ "out", 67, 19, false, "", "skylark/client", 192⟩] := by kernel_rfl
@[go_sem] theorem Tryz.siz170 : Go.Abs.siz Tryz.prog 170 = some 20 := by kernel_rfl
@[go_sem] theorem Tryz.byt170 : Go.Abs.byt Tryz.prog 170 = some 216 := by kernel_rfl
@[go_sem] theorem Tryz.azero170 : Go.Abs.aZero Tryz.prog 170 = some (20, .agg [.v (.int .i64 0), .v (.int .i64 0), .v (.int .i64 0), .v (.int .i64 0), .v (.slice none 0 0), .v (.int .i64 0), .v (.int .i64 0), .v (.int .i64 0), .v (.int .i64 0), .v (.bool false), .v (.bool false), .v (.int .i64 0), .v (.int .i64 0), .v (.slice none 0 0), .v (.int .i64 0), .v (.int .i64 0), .v (.slice none 0 0), .v (.int .i64 0), .v (.int .i64 0), .v (.slice none 0 0)]) := by kernel_rfl
@[go_sem] theorem Tryz.zer170 : Go.Abs.zer Tryz.prog 170 = some (.agg [.v (.int .i64 0), .v (.int .i64 0), .v (.int .i64 0), .v (.int .i64 0), .v (.slice none 0 0), .v (.int .i64 0), .v (.int .i64 0), .v (.int .i64 0), .v (.int .i64 0), .v (.bool false), .v (.bool false), .v (.int .i64 0), .v (.int .i64 0), .v (.slice none 0 0), .v (.int .i64 0), .v (.int .i64 0), .v (.slice none 0 0), .v (.int .i64 0), .v (.int .i64 0), .v (.slice none 0 0)]) := by kernel_rfl
@[go_sem] theorem Tryz.plainSrc170 : Go.Abs.plainSrc Tryz.prog 170 = false := by kernel_rfl
@[go_sem] theorem Tryz.fld170_0 : Go.Abs.fld Tryz.prog 170 0 = some (0, 1, false) := by kernel_rfl
@[go_sem] theorem Tryz.fld170_1 : Go.Abs.fld Tryz.prog 170 1 = some (1, 1, false) := by kernel_rfl
@[go_sem] theorem Tryz.fld170_2 : Go.Abs.fld Tryz.prog 170 2 = some (2, 1, false) := by kernel_rfl
@[go_sem] theorem Tryz.fld170_3 : Go.Abs.fld Tryz.prog 170 3 = some (3, 2, true) := by kernel_rfl
@[go_sem] theorem Tryz.fld170_4 : Go.Abs.fld Tryz.prog 170 4 = some (5, 1, false) := by kernel_rfl
@[go_sem] theorem Tryz.fld170_5 : Go.Abs.fld Tryz.prog 170 5 = some (6, 1, false) := by kernel_rfl
@[go_sem] theorem Tryz.fld170_6 : Go.Abs.fld Tryz.prog 170 6 = some (7, 1, false) := by kernel_rfl
@[go_sem] theorem Tryz.fld170_7 : Go.Abs.fld Tryz.prog 170 7 = some (8, 1, false) := by kernel_rfl
@[go_sem] theorem Tryz.fld170_8 : Go.Abs.fld Tryz.prog 170 8 = some (9, 2, true) := by kernel_rfl
@[go_sem] theorem Tryz.fld170_9 : Go.Abs.fld Tryz.prog 170 9 = some (11, 3, true) := by kernel_rfl
@[go_sem] theorem Tryz.fld170_10 : Go.Abs.fld Tryz.prog 170 10 = some (14, 5, true) := by kernel_rfl
@[go_sem] theorem Tryz.fld170_11 : Go.Abs.fld Tryz.prog 170 11 = some (19, 1, false) := by kernel_rfl
@[go_sem] theorem Tryz.und171 : Go.Abs.und Tryz.prog 171 = .struct #[⟨ "id", 3, 0, false, "", "skylark/client", 0⟩, ⟨ "patience", 3, 1, false, "", "skylark/client", 8⟩, ⟨ "tries", 3, 2, false, "", "skylark/client", 16⟩, ⟨ "l", 47, 3, false, "", "skylark/client", 24⟩, ⟨ "now", 3, 5, false, "", "skylark/client", 56⟩, ⟨ "seq", 3, 6, false, "", "skylark/client", 64⟩, ⟨ "tried", 3, 7, false, "", "skylark/client", 72⟩, ⟨ "sent", 3, 8, false, "", "skylark/client", 80⟩, ⟨ "at", 169, 9, false, "", "skylark/client", 88⟩, ⟨ "r", 85, 11, false, "", "skylark/client", 96⟩, ⟨ "p", 59, 14, false, "", "skylark/client", 136⟩, ⟨ "out", 67, 19, false, "", "skylark/client", 192⟩] := by kernel_rfl
@[go_sem] theorem Tryz.siz171 : Go.Abs.siz Tryz.prog 171 = some 20 := by kernel_rfl
@[go_sem] theorem Tryz.byt171 : Go.Abs.byt Tryz.prog 171 = some 216 := by kernel_rfl
@[go_sem] theorem Tryz.azero171 : Go.Abs.aZero Tryz.prog 171 = some (20, .agg [.v (.int .i64 0), .v (.int .i64 0), .v (.int .i64 0), .v (.int .i64 0), .v (.slice none 0 0), .v (.int .i64 0), .v (.int .i64 0), .v (.int .i64 0), .v (.int .i64 0), .v (.bool false), .v (.bool false), .v (.int .i64 0), .v (.int .i64 0), .v (.slice none 0 0), .v (.int .i64 0), .v (.int .i64 0), .v (.slice none 0 0), .v (.int .i64 0), .v (.int .i64 0), .v (.slice none 0 0)]) := by kernel_rfl
@[go_sem] theorem Tryz.zer171 : Go.Abs.zer Tryz.prog 171 = some (.agg [.v (.int .i64 0), .v (.int .i64 0), .v (.int .i64 0), .v (.int .i64 0), .v (.slice none 0 0), .v (.int .i64 0), .v (.int .i64 0), .v (.int .i64 0), .v (.int .i64 0), .v (.bool false), .v (.bool false), .v (.int .i64 0), .v (.int .i64 0), .v (.slice none 0 0), .v (.int .i64 0), .v (.int .i64 0), .v (.slice none 0 0), .v (.int .i64 0), .v (.int .i64 0), .v (.slice none 0 0)]) := by kernel_rfl
@[go_sem] theorem Tryz.plainSrc171 : Go.Abs.plainSrc Tryz.prog 171 = false := by kernel_rfl
@[go_sem] theorem Tryz.fld171_0 : Go.Abs.fld Tryz.prog 171 0 = some (0, 1, false) := by kernel_rfl
@[go_sem] theorem Tryz.fld171_1 : Go.Abs.fld Tryz.prog 171 1 = some (1, 1, false) := by kernel_rfl
@[go_sem] theorem Tryz.fld171_2 : Go.Abs.fld Tryz.prog 171 2 = some (2, 1, false) := by kernel_rfl
@[go_sem] theorem Tryz.fld171_3 : Go.Abs.fld Tryz.prog 171 3 = some (3, 2, true) := by kernel_rfl
@[go_sem] theorem Tryz.fld171_4 : Go.Abs.fld Tryz.prog 171 4 = some (5, 1, false) := by kernel_rfl
@[go_sem] theorem Tryz.fld171_5 : Go.Abs.fld Tryz.prog 171 5 = some (6, 1, false) := by kernel_rfl
@[go_sem] theorem Tryz.fld171_6 : Go.Abs.fld Tryz.prog 171 6 = some (7, 1, false) := by kernel_rfl
@[go_sem] theorem Tryz.fld171_7 : Go.Abs.fld Tryz.prog 171 7 = some (8, 1, false) := by kernel_rfl
@[go_sem] theorem Tryz.fld171_8 : Go.Abs.fld Tryz.prog 171 8 = some (9, 2, true) := by kernel_rfl
@[go_sem] theorem Tryz.fld171_9 : Go.Abs.fld Tryz.prog 171 9 = some (11, 3, true) := by kernel_rfl
@[go_sem] theorem Tryz.fld171_10 : Go.Abs.fld Tryz.prog 171 10 = some (14, 5, true) := by kernel_rfl
@[go_sem] theorem Tryz.fld171_11 : Go.Abs.fld Tryz.prog 171 11 = some (19, 1, false) := by kernel_rfl
@[go_sem] theorem Tryz.und184 : Go.Abs.und Tryz.prog 184 = .slice 5 := by kernel_rfl
@[go_sem] theorem Tryz.siz184 : Go.Abs.siz Tryz.prog 184 = some 1 := by kernel_rfl
@[go_sem] theorem Tryz.byt184 : Go.Abs.byt Tryz.prog 184 = some 24 := by kernel_rfl
@[go_sem] theorem Tryz.azero184 : Go.Abs.aZero Tryz.prog 184 = some (1, .v (.slice none 0 0)) := by kernel_rfl
@[go_sem] theorem Tryz.zer184 : Go.Abs.zer Tryz.prog 184 = some (.v (.slice none 0 0)) := by kernel_rfl
@[go_sem] theorem Tryz.plainSrc184 : Go.Abs.plainSrc Tryz.prog 184 = true := by kernel_rfl
@[go_sem] theorem Tryz.und187 : Go.Abs.und Tryz.prog 187 = .slice 264 := by kernel_rfl
@[go_sem] theorem Tryz.siz187 : Go.Abs.siz Tryz.prog 187 = some 1 := by kernel_rfl
@[go_sem] theorem Tryz.byt187 : Go.Abs.byt Tryz.prog 187 = some 24 := by kernel_rfl
@[go_sem] theorem Tryz.azero187 : Go.Abs.aZero Tryz.prog 187 = some (1, .v (.slice none 0 0)) := by kernel_rfl
@[go_sem] theorem Tryz.zer187 : Go.Abs.zer Tryz.prog 187 = some (.v (.slice none 0 0)) := by kernel_rfl
@[go_sem] theorem Tryz.plainSrc187 : Go.Abs.plainSrc Tryz.prog 187 = true := by kernel_rfl
@[go_sem] theorem Tryz.und188 : Go.Abs.und Tryz.prog 188 = .slice 264 := by kernel_rfl
@[go_sem] theorem Tryz.siz188 : Go.Abs.siz Tryz.prog 188 = some 1 := by kernel_rfl
@[go_sem] theorem Tryz.byt188 : Go.Abs.byt Tryz.prog 188 = some 24 := by kernel_rfl
@[go_sem] theorem Tryz.azero188 : Go.Abs.aZero Tryz.prog 188 = some (1, .v (.slice none 0 0)) := by kernel_rfl
@[go_sem] theorem Tryz.zer188 : Go.Abs.zer Tryz.prog 188 = some (.v (.slice none 0 0)) := by kernel_rfl
@[go_sem] theorem Tryz.plainSrc188 : Go.Abs.plainSrc Tryz.prog 188 = true := by kernel_rfl
@[go_sem] theorem Tryz.und194 : Go.Abs.und Tryz.prog 194 = .pointer 199 := by kernel_rfl
@[go_sem] theorem Tryz.siz194 : Go.Abs.siz Tryz.prog 194 = some 1 := by kernel_rfl
@[go_sem] theorem Tryz.byt194 : Go.Abs.byt Tryz.prog 194 = some 8 := by kernel_rfl
@[go_sem] theorem Tryz.azero194 : Go.Abs.aZero Tryz.prog 194 = some (1, .v (.pointer none)) := by kernel_rfl
@[go_sem] theorem Tryz.zer194 : Go.Abs.zer Tryz.prog 194 = some (.v (.pointer none)) := by kernel_rfl
@[go_sem] theorem Tryz.plainSrc194 : Go.Abs.plainSrc Tryz.prog 194 = false := by kernel_rfl
@[go_sem] theorem Tryz.und198 : Go.Abs.und Tryz.prog 198 = .struct #[⟨ "l", 71, 0, false, "", "skylark/op", 0⟩, ⟨ "ok", 4, 1, false, "", "skylark/op", 24⟩] := by kernel_rfl
@[go_sem] theorem Tryz.siz198 : Go.Abs.siz Tryz.prog 198 = some 2 := by kernel_rfl
@[go_sem] theorem Tryz.byt198 : Go.Abs.byt Tryz.prog 198 = some 32 := by kernel_rfl
@[go_sem] theorem Tryz.azero198 : Go.Abs.aZero Tryz.prog 198 = some (2, .agg [.v (.slice none 0 0), .v (.bool false)]) := by kernel_rfl
@[go_sem] theorem Tryz.zer198 : Go.Abs.zer Tryz.prog 198 = some (.agg [.v (.slice none 0 0), .v (.bool false)]) := by kernel_rfl
@[go_sem] theorem Tryz.plainSrc198 : Go.Abs.plainSrc Tryz.prog 198 = false := by kernel_rfl
@[go_sem] theorem Tryz.fld198_0 : Go.Abs.fld Tryz.prog 198 0 = some (0, 1, false) := by kernel_rfl
@[go_sem] theorem Tryz.fld198_1 : Go.Abs.fld Tryz.prog 198 1 = some (1, 1, false) := by kernel_rfl
@[go_sem] theorem Tryz.und199 : Go.Abs.und Tryz.prog 199 = .struct #[⟨ "l", 71, 0, false, "", "skylark/op", 0⟩, ⟨ "ok", 4, 1, false, "", "skylark/op", 24⟩] := by kernel_rfl
@[go_sem] theorem Tryz.siz199 : Go.Abs.siz Tryz.prog 199 = some 2 := by kernel_rfl
@[go_sem] theorem Tryz.byt199 : Go.Abs.byt Tryz.prog 199 = some 32 := by kernel_rfl
@[go_sem] theorem Tryz.azero199 : Go.Abs.aZero Tryz.prog 199 = some (2, .agg [.v (.slice none 0 0), .v (.bool false)]) := by kernel_rfl
@[go_sem] theorem Tryz.zer199 : Go.Abs.zer Tryz.prog 199 = some (.agg [.v (.slice none 0 0), .v (.bool false)]) := by kernel_rfl
@[go_sem] theorem Tryz.plainSrc199 : Go.Abs.plainSrc Tryz.prog 199 = false := by kernel_rfl
@[go_sem] theorem Tryz.fld199_0 : Go.Abs.fld Tryz.prog 199 0 = some (0, 1, false) := by kernel_rfl
@[go_sem] theorem Tryz.fld199_1 : Go.Abs.fld Tryz.prog 199 1 = some (1, 1, false) := by kernel_rfl
@[go_sem] theorem Tryz.und201 : Go.Abs.und Tryz.prog 201 = .struct #[⟨ "Key", 9, 0, false, "", "", 0⟩, ⟨ "Stamp", 3, 1, false, "", "", 16⟩, ⟨ "Val", 9, 2, false, "", "", 24⟩] := by kernel_rfl
@[go_sem] theorem Tryz.siz201 : Go.Abs.siz Tryz.prog 201 = some 3 := by kernel_rfl
@[go_sem] theorem Tryz.byt201 : Go.Abs.byt Tryz.prog 201 = some 40 := by kernel_rfl
@[go_sem] theorem Tryz.azero201 : Go.Abs.aZero Tryz.prog 201 = some (3, .agg [.v (.string ByteArray.empty), .v (.int .i64 0), .v (.string ByteArray.empty)]) := by kernel_rfl
@[go_sem] theorem Tryz.zer201 : Go.Abs.zer Tryz.prog 201 = some (.agg [.v (.string ByteArray.empty), .v (.int .i64 0), .v (.string ByteArray.empty)]) := by kernel_rfl
@[go_sem] theorem Tryz.plainSrc201 : Go.Abs.plainSrc Tryz.prog 201 = false := by kernel_rfl
@[go_sem] theorem Tryz.fld201_0 : Go.Abs.fld Tryz.prog 201 0 = some (0, 1, false) := by kernel_rfl
@[go_sem] theorem Tryz.fld201_1 : Go.Abs.fld Tryz.prog 201 1 = some (1, 1, false) := by kernel_rfl
@[go_sem] theorem Tryz.fld201_2 : Go.Abs.fld Tryz.prog 201 2 = some (2, 1, false) := by kernel_rfl
@[go_sem] theorem Tryz.und202 : Go.Abs.und Tryz.prog 202 = .struct #[⟨ "Key", 9, 0, false, "", "", 0⟩, ⟨ "Stamp", 3, 1, false, "", "", 16⟩, ⟨ "Val", 9, 2, false, "", "", 24⟩] := by kernel_rfl
@[go_sem] theorem Tryz.siz202 : Go.Abs.siz Tryz.prog 202 = some 3 := by kernel_rfl
@[go_sem] theorem Tryz.byt202 : Go.Abs.byt Tryz.prog 202 = some 40 := by kernel_rfl
@[go_sem] theorem Tryz.azero202 : Go.Abs.aZero Tryz.prog 202 = some (3, .agg [.v (.string ByteArray.empty), .v (.int .i64 0), .v (.string ByteArray.empty)]) := by kernel_rfl
@[go_sem] theorem Tryz.zer202 : Go.Abs.zer Tryz.prog 202 = some (.agg [.v (.string ByteArray.empty), .v (.int .i64 0), .v (.string ByteArray.empty)]) := by kernel_rfl
@[go_sem] theorem Tryz.plainSrc202 : Go.Abs.plainSrc Tryz.prog 202 = false := by kernel_rfl
@[go_sem] theorem Tryz.fld202_0 : Go.Abs.fld Tryz.prog 202 0 = some (0, 1, false) := by kernel_rfl
@[go_sem] theorem Tryz.fld202_1 : Go.Abs.fld Tryz.prog 202 1 = some (1, 1, false) := by kernel_rfl
@[go_sem] theorem Tryz.fld202_2 : Go.Abs.fld Tryz.prog 202 2 = some (2, 1, false) := by kernel_rfl
@[go_sem] theorem Tryz.und207 : Go.Abs.und Tryz.prog 207 = .slice 211 := by kernel_rfl
@[go_sem] theorem Tryz.siz207 : Go.Abs.siz Tryz.prog 207 = some 1 := by kernel_rfl
@[go_sem] theorem Tryz.byt207 : Go.Abs.byt Tryz.prog 207 = some 24 := by kernel_rfl
@[go_sem] theorem Tryz.azero207 : Go.Abs.aZero Tryz.prog 207 = some (1, .v (.slice none 0 0)) := by kernel_rfl
@[go_sem] theorem Tryz.zer207 : Go.Abs.zer Tryz.prog 207 = some (.v (.slice none 0 0)) := by kernel_rfl
@[go_sem] theorem Tryz.plainSrc207 : Go.Abs.plainSrc Tryz.prog 207 = true := by kernel_rfl
@[go_sem] theorem Tryz.und215 : Go.Abs.und Tryz.prog 215 = .pointer 217 := by kernel_rfl
@[go_sem] theorem Tryz.siz215 : Go.Abs.siz Tryz.prog 215 = some 1 := by kernel_rfl
@[go_sem] theorem Tryz.byt215 : Go.Abs.byt Tryz.prog 215 = some 8 := by kernel_rfl
@[go_sem] theorem Tryz.azero215 : Go.Abs.aZero Tryz.prog 215 = some (1, .v (.pointer none)) := by kernel_rfl
@[go_sem] theorem Tryz.zer215 : Go.Abs.zer Tryz.prog 215 = some (.v (.pointer none)) := by kernel_rfl
@[go_sem] theorem Tryz.plainSrc215 : Go.Abs.plainSrc Tryz.prog 215 = false := by kernel_rfl
@[go_sem] theorem Tryz.und216 : Go.Abs.und Tryz.prog 216 = .struct #[⟨ "L", 52, 0, false, "", "", 0⟩] := by kernel_rfl
@[go_sem] theorem Tryz.siz216 : Go.Abs.siz Tryz.prog 216 = some 1 := by kernel_rfl
@[go_sem] theorem Tryz.byt216 : Go.Abs.byt Tryz.prog 216 = some 24 := by kernel_rfl
@[go_sem] theorem Tryz.azero216 : Go.Abs.aZero Tryz.prog 216 = some (1, .agg [.v (.slice none 0 0)]) := by kernel_rfl
@[go_sem] theorem Tryz.zer216 : Go.Abs.zer Tryz.prog 216 = some (.agg [.v (.slice none 0 0)]) := by kernel_rfl
@[go_sem] theorem Tryz.plainSrc216 : Go.Abs.plainSrc Tryz.prog 216 = false := by kernel_rfl
@[go_sem] theorem Tryz.fld216_0 : Go.Abs.fld Tryz.prog 216 0 = some (0, 1, false) := by kernel_rfl
@[go_sem] theorem Tryz.und217 : Go.Abs.und Tryz.prog 217 = .struct #[⟨ "L", 52, 0, false, "", "", 0⟩] := by kernel_rfl
@[go_sem] theorem Tryz.siz217 : Go.Abs.siz Tryz.prog 217 = some 1 := by kernel_rfl
@[go_sem] theorem Tryz.byt217 : Go.Abs.byt Tryz.prog 217 = some 24 := by kernel_rfl
@[go_sem] theorem Tryz.azero217 : Go.Abs.aZero Tryz.prog 217 = some (1, .agg [.v (.slice none 0 0)]) := by kernel_rfl
@[go_sem] theorem Tryz.zer217 : Go.Abs.zer Tryz.prog 217 = some (.agg [.v (.slice none 0 0)]) := by kernel_rfl
@[go_sem] theorem Tryz.plainSrc217 : Go.Abs.plainSrc Tryz.prog 217 = false := by kernel_rfl
@[go_sem] theorem Tryz.fld217_0 : Go.Abs.fld Tryz.prog 217 0 = some (0, 1, false) := by kernel_rfl
@[go_sem] theorem Tryz.und224 : Go.Abs.und Tryz.prog 224 = .struct #[⟨ "rows", 52, 0, false, "", "skylark/table", 0⟩] := by kernel_rfl
@[go_sem] theorem Tryz.siz224 : Go.Abs.siz Tryz.prog 224 = some 1 := by kernel_rfl
@[go_sem] theorem Tryz.byt224 : Go.Abs.byt Tryz.prog 224 = some 24 := by kernel_rfl
@[go_sem] theorem Tryz.azero224 : Go.Abs.aZero Tryz.prog 224 = some (1, .agg [.v (.slice none 0 0)]) := by kernel_rfl
@[go_sem] theorem Tryz.zer224 : Go.Abs.zer Tryz.prog 224 = some (.agg [.v (.slice none 0 0)]) := by kernel_rfl
@[go_sem] theorem Tryz.plainSrc224 : Go.Abs.plainSrc Tryz.prog 224 = false := by kernel_rfl
@[go_sem] theorem Tryz.fld224_0 : Go.Abs.fld Tryz.prog 224 0 = some (0, 1, false) := by kernel_rfl
@[go_sem] theorem Tryz.und225 : Go.Abs.und Tryz.prog 225 = .struct #[⟨ "rows", 52, 0, false, "", "skylark/table", 0⟩] := by kernel_rfl
@[go_sem] theorem Tryz.siz225 : Go.Abs.siz Tryz.prog 225 = some 1 := by kernel_rfl
@[go_sem] theorem Tryz.byt225 : Go.Abs.byt Tryz.prog 225 = some 24 := by kernel_rfl
@[go_sem] theorem Tryz.azero225 : Go.Abs.aZero Tryz.prog 225 = some (1, .agg [.v (.slice none 0 0)]) := by kernel_rfl
@[go_sem] theorem Tryz.zer225 : Go.Abs.zer Tryz.prog 225 = some (.agg [.v (.slice none 0 0)]) := by kernel_rfl
@[go_sem] theorem Tryz.plainSrc225 : Go.Abs.plainSrc Tryz.prog 225 = false := by kernel_rfl
@[go_sem] theorem Tryz.fld225_0 : Go.Abs.fld Tryz.prog 225 0 = some (0, 1, false) := by kernel_rfl
@[go_sem] theorem Tryz.und236 : Go.Abs.und Tryz.prog 236 = .int .u64 := by kernel_rfl
@[go_sem] theorem Tryz.siz236 : Go.Abs.siz Tryz.prog 236 = some 1 := by kernel_rfl
@[go_sem] theorem Tryz.byt236 : Go.Abs.byt Tryz.prog 236 = some 8 := by kernel_rfl
@[go_sem] theorem Tryz.azero236 : Go.Abs.aZero Tryz.prog 236 = some (1, .v (.int .u64 0)) := by kernel_rfl
@[go_sem] theorem Tryz.zer236 : Go.Abs.zer Tryz.prog 236 = some (.v (.int .u64 0)) := by kernel_rfl
@[go_sem] theorem Tryz.plainSrc236 : Go.Abs.plainSrc Tryz.prog 236 = false := by kernel_rfl
@[go_sem] theorem Tryz.und248 : Go.Abs.und Tryz.prog 248 = .slice 297 := by kernel_rfl
@[go_sem] theorem Tryz.siz248 : Go.Abs.siz Tryz.prog 248 = some 1 := by kernel_rfl
@[go_sem] theorem Tryz.byt248 : Go.Abs.byt Tryz.prog 248 = some 24 := by kernel_rfl
@[go_sem] theorem Tryz.azero248 : Go.Abs.aZero Tryz.prog 248 = some (1, .v (.slice none 0 0)) := by kernel_rfl
@[go_sem] theorem Tryz.zer248 : Go.Abs.zer Tryz.prog 248 = some (.v (.slice none 0 0)) := by kernel_rfl
@[go_sem] theorem Tryz.plainSrc248 : Go.Abs.plainSrc Tryz.prog 248 = true := by kernel_rfl
@[go_sem] theorem Tryz.und254 : Go.Abs.und Tryz.prog 254 = .pointer 256 := by kernel_rfl
@[go_sem] theorem Tryz.siz254 : Go.Abs.siz Tryz.prog 254 = some 1 := by kernel_rfl
@[go_sem] theorem Tryz.byt254 : Go.Abs.byt Tryz.prog 254 = some 8 := by kernel_rfl
@[go_sem] theorem Tryz.azero254 : Go.Abs.aZero Tryz.prog 254 = some (1, .v (.pointer none)) := by kernel_rfl
@[go_sem] theorem Tryz.zer254 : Go.Abs.zer Tryz.prog 254 = some (.v (.pointer none)) := by kernel_rfl
@[go_sem] theorem Tryz.plainSrc254 : Go.Abs.plainSrc Tryz.prog 254 = false := by kernel_rfl
@[go_sem] theorem Tryz.und255 : Go.Abs.und Tryz.prog 255 = .struct #[⟨ "l", 71, 0, false, "", "skylark/op", 0⟩] := by kernel_rfl
@[go_sem] theorem Tryz.siz255 : Go.Abs.siz Tryz.prog 255 = some 1 := by kernel_rfl
@[go_sem] theorem Tryz.byt255 : Go.Abs.byt Tryz.prog 255 = some 24 := by kernel_rfl
@[go_sem] theorem Tryz.azero255 : Go.Abs.aZero Tryz.prog 255 = some (1, .agg [.v (.slice none 0 0)]) := by kernel_rfl
@[go_sem] theorem Tryz.zer255 : Go.Abs.zer Tryz.prog 255 = some (.agg [.v (.slice none 0 0)]) := by kernel_rfl
@[go_sem] theorem Tryz.plainSrc255 : Go.Abs.plainSrc Tryz.prog 255 = false := by kernel_rfl
@[go_sem] theorem Tryz.fld255_0 : Go.Abs.fld Tryz.prog 255 0 = some (0, 1, false) := by kernel_rfl
@[go_sem] theorem Tryz.und256 : Go.Abs.und Tryz.prog 256 = .struct #[⟨ "l", 71, 0, false, "", "skylark/op", 0⟩] := by kernel_rfl
@[go_sem] theorem Tryz.siz256 : Go.Abs.siz Tryz.prog 256 = some 1 := by kernel_rfl
@[go_sem] theorem Tryz.byt256 : Go.Abs.byt Tryz.prog 256 = some 24 := by kernel_rfl
@[go_sem] theorem Tryz.azero256 : Go.Abs.aZero Tryz.prog 256 = some (1, .agg [.v (.slice none 0 0)]) := by kernel_rfl
@[go_sem] theorem Tryz.zer256 : Go.Abs.zer Tryz.prog 256 = some (.agg [.v (.slice none 0 0)]) := by kernel_rfl
@[go_sem] theorem Tryz.plainSrc256 : Go.Abs.plainSrc Tryz.prog 256 = false := by kernel_rfl
@[go_sem] theorem Tryz.fld256_0 : Go.Abs.fld Tryz.prog 256 0 = some (0, 1, false) := by kernel_rfl
@[go_sem] theorem Tryz.und263 : Go.Abs.und Tryz.prog 263 = .struct #[⟨ "at", 105, 0, false, "", "skylark/ring", 0⟩, ⟨ "chain", 3, 1, false, "", "skylark/ring", 8⟩, ⟨ "i", 3, 2, false, "", "skylark/ring", 16⟩] := by kernel_rfl
@[go_sem] theorem Tryz.siz263 : Go.Abs.siz Tryz.prog 263 = some 3 := by kernel_rfl
@[go_sem] theorem Tryz.byt263 : Go.Abs.byt Tryz.prog 263 = some 24 := by kernel_rfl
@[go_sem] theorem Tryz.azero263 : Go.Abs.aZero Tryz.prog 263 = some (3, .agg [.v (.int .u64 0), .v (.int .i64 0), .v (.int .i64 0)]) := by kernel_rfl
@[go_sem] theorem Tryz.zer263 : Go.Abs.zer Tryz.prog 263 = some (.agg [.v (.int .u64 0), .v (.int .i64 0), .v (.int .i64 0)]) := by kernel_rfl
@[go_sem] theorem Tryz.plainSrc263 : Go.Abs.plainSrc Tryz.prog 263 = false := by kernel_rfl
@[go_sem] theorem Tryz.fld263_0 : Go.Abs.fld Tryz.prog 263 0 = some (0, 1, false) := by kernel_rfl
@[go_sem] theorem Tryz.fld263_1 : Go.Abs.fld Tryz.prog 263 1 = some (1, 1, false) := by kernel_rfl
@[go_sem] theorem Tryz.fld263_2 : Go.Abs.fld Tryz.prog 263 2 = some (2, 1, false) := by kernel_rfl
@[go_sem] theorem Tryz.und264 : Go.Abs.und Tryz.prog 264 = .struct #[⟨ "at", 105, 0, false, "", "skylark/ring", 0⟩, ⟨ "chain", 3, 1, false, "", "skylark/ring", 8⟩, ⟨ "i", 3, 2, false, "", "skylark/ring", 16⟩] := by kernel_rfl
@[go_sem] theorem Tryz.siz264 : Go.Abs.siz Tryz.prog 264 = some 3 := by kernel_rfl
@[go_sem] theorem Tryz.byt264 : Go.Abs.byt Tryz.prog 264 = some 24 := by kernel_rfl
@[go_sem] theorem Tryz.azero264 : Go.Abs.aZero Tryz.prog 264 = some (3, .agg [.v (.int .u64 0), .v (.int .i64 0), .v (.int .i64 0)]) := by kernel_rfl
@[go_sem] theorem Tryz.zer264 : Go.Abs.zer Tryz.prog 264 = some (.agg [.v (.int .u64 0), .v (.int .i64 0), .v (.int .i64 0)]) := by kernel_rfl
@[go_sem] theorem Tryz.plainSrc264 : Go.Abs.plainSrc Tryz.prog 264 = false := by kernel_rfl
@[go_sem] theorem Tryz.fld264_0 : Go.Abs.fld Tryz.prog 264 0 = some (0, 1, false) := by kernel_rfl
@[go_sem] theorem Tryz.fld264_1 : Go.Abs.fld Tryz.prog 264 1 = some (1, 1, false) := by kernel_rfl
@[go_sem] theorem Tryz.fld264_2 : Go.Abs.fld Tryz.prog 264 2 = some (2, 1, false) := by kernel_rfl
@[go_sem] theorem Tryz.und272 : Go.Abs.und Tryz.prog 272 = .struct #[⟨ "cursor", 9, 0, false, "", "skylark/layout", 0⟩, ⟨ "done", 4, 1, false, "", "skylark/layout", 16⟩] := by kernel_rfl
@[go_sem] theorem Tryz.siz272 : Go.Abs.siz Tryz.prog 272 = some 2 := by kernel_rfl
@[go_sem] theorem Tryz.byt272 : Go.Abs.byt Tryz.prog 272 = some 24 := by kernel_rfl
@[go_sem] theorem Tryz.azero272 : Go.Abs.aZero Tryz.prog 272 = some (2, .agg [.v (.string ByteArray.empty), .v (.bool false)]) := by kernel_rfl
@[go_sem] theorem Tryz.zer272 : Go.Abs.zer Tryz.prog 272 = some (.agg [.v (.string ByteArray.empty), .v (.bool false)]) := by kernel_rfl
@[go_sem] theorem Tryz.plainSrc272 : Go.Abs.plainSrc Tryz.prog 272 = false := by kernel_rfl
@[go_sem] theorem Tryz.fld272_0 : Go.Abs.fld Tryz.prog 272 0 = some (0, 1, false) := by kernel_rfl
@[go_sem] theorem Tryz.fld272_1 : Go.Abs.fld Tryz.prog 272 1 = some (1, 1, false) := by kernel_rfl
@[go_sem] theorem Tryz.und273 : Go.Abs.und Tryz.prog 273 = .struct #[⟨ "cursor", 9, 0, false, "", "skylark/layout", 0⟩, ⟨ "done", 4, 1, false, "", "skylark/layout", 16⟩] := by kernel_rfl
@[go_sem] theorem Tryz.siz273 : Go.Abs.siz Tryz.prog 273 = some 2 := by kernel_rfl
@[go_sem] theorem Tryz.byt273 : Go.Abs.byt Tryz.prog 273 = some 24 := by kernel_rfl
@[go_sem] theorem Tryz.azero273 : Go.Abs.aZero Tryz.prog 273 = some (2, .agg [.v (.string ByteArray.empty), .v (.bool false)]) := by kernel_rfl
@[go_sem] theorem Tryz.zer273 : Go.Abs.zer Tryz.prog 273 = some (.agg [.v (.string ByteArray.empty), .v (.bool false)]) := by kernel_rfl
@[go_sem] theorem Tryz.plainSrc273 : Go.Abs.plainSrc Tryz.prog 273 = false := by kernel_rfl
@[go_sem] theorem Tryz.fld273_0 : Go.Abs.fld Tryz.prog 273 0 = some (0, 1, false) := by kernel_rfl
@[go_sem] theorem Tryz.fld273_1 : Go.Abs.fld Tryz.prog 273 1 = some (1, 1, false) := by kernel_rfl
@[go_sem] theorem Tryz.und286 : Go.Abs.und Tryz.prog 286 = .int .u32 := by kernel_rfl
@[go_sem] theorem Tryz.siz286 : Go.Abs.siz Tryz.prog 286 = some 1 := by kernel_rfl
@[go_sem] theorem Tryz.byt286 : Go.Abs.byt Tryz.prog 286 = some 4 := by kernel_rfl
@[go_sem] theorem Tryz.azero286 : Go.Abs.aZero Tryz.prog 286 = some (1, .v (.int .u32 0)) := by kernel_rfl
@[go_sem] theorem Tryz.zer286 : Go.Abs.zer Tryz.prog 286 = some (.v (.int .u32 0)) := by kernel_rfl
@[go_sem] theorem Tryz.plainSrc286 : Go.Abs.plainSrc Tryz.prog 286 = false := by kernel_rfl
@[go_sem] theorem Tryz.und296 : Go.Abs.und Tryz.prog 296 = .struct #[⟨ "At", 105, 0, false, "", "", 0⟩, ⟨ "Chain", 3, 1, false, "", "", 8⟩] := by kernel_rfl
@[go_sem] theorem Tryz.siz296 : Go.Abs.siz Tryz.prog 296 = some 2 := by kernel_rfl
@[go_sem] theorem Tryz.byt296 : Go.Abs.byt Tryz.prog 296 = some 16 := by kernel_rfl
@[go_sem] theorem Tryz.azero296 : Go.Abs.aZero Tryz.prog 296 = some (2, .agg [.v (.int .u64 0), .v (.int .i64 0)]) := by kernel_rfl
@[go_sem] theorem Tryz.zer296 : Go.Abs.zer Tryz.prog 296 = some (.agg [.v (.int .u64 0), .v (.int .i64 0)]) := by kernel_rfl
@[go_sem] theorem Tryz.plainSrc296 : Go.Abs.plainSrc Tryz.prog 296 = false := by kernel_rfl
@[go_sem] theorem Tryz.fld296_0 : Go.Abs.fld Tryz.prog 296 0 = some (0, 1, false) := by kernel_rfl
@[go_sem] theorem Tryz.fld296_1 : Go.Abs.fld Tryz.prog 296 1 = some (1, 1, false) := by kernel_rfl
@[go_sem] theorem Tryz.und297 : Go.Abs.und Tryz.prog 297 = .struct #[⟨ "At", 105, 0, false, "", "", 0⟩, ⟨ "Chain", 3, 1, false, "", "", 8⟩] := by kernel_rfl
@[go_sem] theorem Tryz.siz297 : Go.Abs.siz Tryz.prog 297 = some 2 := by kernel_rfl
@[go_sem] theorem Tryz.byt297 : Go.Abs.byt Tryz.prog 297 = some 16 := by kernel_rfl
@[go_sem] theorem Tryz.azero297 : Go.Abs.aZero Tryz.prog 297 = some (2, .agg [.v (.int .u64 0), .v (.int .i64 0)]) := by kernel_rfl
@[go_sem] theorem Tryz.zer297 : Go.Abs.zer Tryz.prog 297 = some (.agg [.v (.int .u64 0), .v (.int .i64 0)]) := by kernel_rfl
@[go_sem] theorem Tryz.plainSrc297 : Go.Abs.plainSrc Tryz.prog 297 = false := by kernel_rfl
@[go_sem] theorem Tryz.fld297_0 : Go.Abs.fld Tryz.prog 297 0 = some (0, 1, false) := by kernel_rfl
@[go_sem] theorem Tryz.fld297_1 : Go.Abs.fld Tryz.prog 297 1 = some (1, 1, false) := by kernel_rfl
@[go_sem] theorem Tryz.und300 : Go.Abs.und Tryz.prog 300 = .struct #[⟨ "n", 105, 0, false, "", "skylark/code", 0⟩, ⟨ "many", 3, 1, false, "", "skylark/code", 8⟩] := by kernel_rfl
@[go_sem] theorem Tryz.siz300 : Go.Abs.siz Tryz.prog 300 = some 2 := by kernel_rfl
@[go_sem] theorem Tryz.byt300 : Go.Abs.byt Tryz.prog 300 = some 16 := by kernel_rfl
@[go_sem] theorem Tryz.azero300 : Go.Abs.aZero Tryz.prog 300 = some (2, .agg [.v (.int .u64 0), .v (.int .i64 0)]) := by kernel_rfl
@[go_sem] theorem Tryz.zer300 : Go.Abs.zer Tryz.prog 300 = some (.agg [.v (.int .u64 0), .v (.int .i64 0)]) := by kernel_rfl
@[go_sem] theorem Tryz.plainSrc300 : Go.Abs.plainSrc Tryz.prog 300 = false := by kernel_rfl
@[go_sem] theorem Tryz.fld300_0 : Go.Abs.fld Tryz.prog 300 0 = some (0, 1, false) := by kernel_rfl
@[go_sem] theorem Tryz.fld300_1 : Go.Abs.fld Tryz.prog 300 1 = some (1, 1, false) := by kernel_rfl
@[go_sem] theorem Tryz.und301 : Go.Abs.und Tryz.prog 301 = .struct #[⟨ "n", 105, 0, false, "", "skylark/code", 0⟩, ⟨ "many", 3, 1, false, "", "skylark/code", 8⟩] := by kernel_rfl
@[go_sem] theorem Tryz.siz301 : Go.Abs.siz Tryz.prog 301 = some 2 := by kernel_rfl
@[go_sem] theorem Tryz.byt301 : Go.Abs.byt Tryz.prog 301 = some 16 := by kernel_rfl
@[go_sem] theorem Tryz.azero301 : Go.Abs.aZero Tryz.prog 301 = some (2, .agg [.v (.int .u64 0), .v (.int .i64 0)]) := by kernel_rfl
@[go_sem] theorem Tryz.zer301 : Go.Abs.zer Tryz.prog 301 = some (.agg [.v (.int .u64 0), .v (.int .i64 0)]) := by kernel_rfl
@[go_sem] theorem Tryz.plainSrc301 : Go.Abs.plainSrc Tryz.prog 301 = false := by kernel_rfl
@[go_sem] theorem Tryz.fld301_0 : Go.Abs.fld Tryz.prog 301 0 = some (0, 1, false) := by kernel_rfl
@[go_sem] theorem Tryz.fld301_1 : Go.Abs.fld Tryz.prog 301 1 = some (1, 1, false) := by kernel_rfl
@[go_sem] theorem Tryz.und317 : Go.Abs.und Tryz.prog 317 = .slice 24 := by kernel_rfl
@[go_sem] theorem Tryz.siz317 : Go.Abs.siz Tryz.prog 317 = some 1 := by kernel_rfl
@[go_sem] theorem Tryz.byt317 : Go.Abs.byt Tryz.prog 317 = some 24 := by kernel_rfl
@[go_sem] theorem Tryz.azero317 : Go.Abs.aZero Tryz.prog 317 = some (1, .v (.slice none 0 0)) := by kernel_rfl
@[go_sem] theorem Tryz.zer317 : Go.Abs.zer Tryz.prog 317 = some (.v (.slice none 0 0)) := by kernel_rfl
@[go_sem] theorem Tryz.plainSrc317 : Go.Abs.plainSrc Tryz.prog 317 = true := by kernel_rfl
@[go_sem] theorem Tryz.und319 : Go.Abs.und Tryz.prog 319 = .array 24 5 := by kernel_rfl
@[go_sem] theorem Tryz.siz319 : Go.Abs.siz Tryz.prog 319 = some 24 := by kernel_rfl
@[go_sem] theorem Tryz.byt319 : Go.Abs.byt Tryz.prog 319 = some 24 := by kernel_rfl
@[go_sem] theorem Tryz.azero319 : Go.Abs.aZero Tryz.prog 319 = some (24, .agg [.v (.int .u8 0), .v (.int .u8 0), .v (.int .u8 0), .v (.int .u8 0), .v (.int .u8 0), .v (.int .u8 0), .v (.int .u8 0), .v (.int .u8 0), .v (.int .u8 0), .v (.int .u8 0), .v (.int .u8 0), .v (.int .u8 0), .v (.int .u8 0), .v (.int .u8 0), .v (.int .u8 0), .v (.int .u8 0), .v (.int .u8 0), .v (.int .u8 0), .v (.int .u8 0), .v (.int .u8 0), .v (.int .u8 0), .v (.int .u8 0), .v (.int .u8 0), .v (.int .u8 0)]) := by kernel_rfl
@[go_sem] theorem Tryz.zer319 : Go.Abs.zer Tryz.prog 319 = some (.agg [.v (.int .u8 0), .v (.int .u8 0), .v (.int .u8 0), .v (.int .u8 0), .v (.int .u8 0), .v (.int .u8 0), .v (.int .u8 0), .v (.int .u8 0), .v (.int .u8 0), .v (.int .u8 0), .v (.int .u8 0), .v (.int .u8 0), .v (.int .u8 0), .v (.int .u8 0), .v (.int .u8 0), .v (.int .u8 0), .v (.int .u8 0), .v (.int .u8 0), .v (.int .u8 0), .v (.int .u8 0), .v (.int .u8 0), .v (.int .u8 0), .v (.int .u8 0), .v (.int .u8 0)]) := by kernel_rfl
@[go_sem] theorem Tryz.plainSrc319 : Go.Abs.plainSrc Tryz.prog 319 = false := by kernel_rfl
@[go_sem] theorem Tryz.und325 : Go.Abs.und Tryz.prog 325 = .int .i64 := by kernel_rfl
@[go_sem] theorem Tryz.siz325 : Go.Abs.siz Tryz.prog 325 = some 1 := by kernel_rfl
@[go_sem] theorem Tryz.byt325 : Go.Abs.byt Tryz.prog 325 = some 8 := by kernel_rfl
@[go_sem] theorem Tryz.azero325 : Go.Abs.aZero Tryz.prog 325 = some (1, .v (.int .i64 0)) := by kernel_rfl
@[go_sem] theorem Tryz.zer325 : Go.Abs.zer Tryz.prog 325 = some (.v (.int .i64 0)) := by kernel_rfl
@[go_sem] theorem Tryz.plainSrc325 : Go.Abs.plainSrc Tryz.prog 325 = false := by kernel_rfl
@[go_sem] theorem Tryz.und334 : Go.Abs.und Tryz.prog 334 = .array 20 105 := by kernel_rfl
@[go_sem] theorem Tryz.siz334 : Go.Abs.siz Tryz.prog 334 = some 20 := by kernel_rfl
@[go_sem] theorem Tryz.byt334 : Go.Abs.byt Tryz.prog 334 = some 160 := by kernel_rfl
@[go_sem] theorem Tryz.azero334 : Go.Abs.aZero Tryz.prog 334 = some (20, .agg [.v (.int .u64 0), .v (.int .u64 0), .v (.int .u64 0), .v (.int .u64 0), .v (.int .u64 0), .v (.int .u64 0), .v (.int .u64 0), .v (.int .u64 0), .v (.int .u64 0), .v (.int .u64 0), .v (.int .u64 0), .v (.int .u64 0), .v (.int .u64 0), .v (.int .u64 0), .v (.int .u64 0), .v (.int .u64 0), .v (.int .u64 0), .v (.int .u64 0), .v (.int .u64 0), .v (.int .u64 0)]) := by kernel_rfl
@[go_sem] theorem Tryz.zer334 : Go.Abs.zer Tryz.prog 334 = some (.agg [.v (.int .u64 0), .v (.int .u64 0), .v (.int .u64 0), .v (.int .u64 0), .v (.int .u64 0), .v (.int .u64 0), .v (.int .u64 0), .v (.int .u64 0), .v (.int .u64 0), .v (.int .u64 0), .v (.int .u64 0), .v (.int .u64 0), .v (.int .u64 0), .v (.int .u64 0), .v (.int .u64 0), .v (.int .u64 0), .v (.int .u64 0), .v (.int .u64 0), .v (.int .u64 0), .v (.int .u64 0)]) := by kernel_rfl
@[go_sem] theorem Tryz.plainSrc334 : Go.Abs.plainSrc Tryz.prog 334 = false := by kernel_rfl
@[go_sem] theorem Tryz.und335 : Go.Abs.und Tryz.prog 335 = .array 65 5 := by kernel_rfl
@[go_sem] theorem Tryz.siz335 : Go.Abs.siz Tryz.prog 335 = some 65 := by kernel_rfl
@[go_sem] theorem Tryz.byt335 : Go.Abs.byt Tryz.prog 335 = some 65 := by kernel_rfl
@[go_sem] theorem Tryz.azero335 : Go.Abs.aZero Tryz.prog 335 = some (65, .agg [.v (.int .u8 0), .v (.int .u8 0), .v (.int .u8 0), .v (.int .u8 0), .v (.int .u8 0), .v (.int .u8 0), .v (.int .u8 0), .v (.int .u8 0), .v (.int .u8 0), .v (.int .u8 0), .v (.int .u8 0), .v (.int .u8 0), .v (.int .u8 0), .v (.int .u8 0), .v (.int .u8 0), .v (.int .u8 0), .v (.int .u8 0), .v (.int .u8 0), .v (.int .u8 0), .v (.int .u8 0), .v (.int .u8 0), .v (.int .u8 0), .v (.int .u8 0), .v (.int .u8 0), .v (.int .u8 0), .v (.int .u8 0), .v (.int .u8 0), .v (.int .u8 0), .v (.int .u8 0), .v (.int .u8 0), .v (.int .u8 0), .v (.int .u8 0), .v (.int .u8 0), .v (.int .u8 0), .v (.int .u8 0), .v (.int .u8 0), .v (.int .u8 0), .v (.int .u8 0), .v (.int .u8 0), .v (.int .u8 0), .v (.int .u8 0), .v (.int .u8 0), .v (.int .u8 0), .v (.int .u8 0), .v (.int .u8 0), .v (.int .u8 0), .v (.int .u8 0), .v (.int .u8 0), .v (.int .u8 0), .v (.int .u8 0), .v (.int .u8 0), .v (.int .u8 0), .v (.int .u8 0), .v (.int .u8 0), .v (.int .u8 0), .v (.int .u8 0), .v (.int .u8 0), .v (.int .u8 0), .v (.int .u8 0), .v (.int .u8 0), .v (.int .u8 0), .v (.int .u8 0), .v (.int .u8 0), .v (.int .u8 0), .v (.int .u8 0)]) := by kernel_rfl
@[go_sem] theorem Tryz.zer335 : Go.Abs.zer Tryz.prog 335 = some (.agg [.v (.int .u8 0), .v (.int .u8 0), .v (.int .u8 0), .v (.int .u8 0), .v (.int .u8 0), .v (.int .u8 0), .v (.int .u8 0), .v (.int .u8 0), .v (.int .u8 0), .v (.int .u8 0), .v (.int .u8 0), .v (.int .u8 0), .v (.int .u8 0), .v (.int .u8 0), .v (.int .u8 0), .v (.int .u8 0), .v (.int .u8 0), .v (.int .u8 0), .v (.int .u8 0), .v (.int .u8 0), .v (.int .u8 0), .v (.int .u8 0), .v (.int .u8 0), .v (.int .u8 0), .v (.int .u8 0), .v (.int .u8 0), .v (.int .u8 0), .v (.int .u8 0), .v (.int .u8 0), .v (.int .u8 0), .v (.int .u8 0), .v (.int .u8 0), .v (.int .u8 0), .v (.int .u8 0), .v (.int .u8 0), .v (.int .u8 0), .v (.int .u8 0), .v (.int .u8 0), .v (.int .u8 0), .v (.int .u8 0), .v (.int .u8 0), .v (.int .u8 0), .v (.int .u8 0), .v (.int .u8 0), .v (.int .u8 0), .v (.int .u8 0), .v (.int .u8 0), .v (.int .u8 0), .v (.int .u8 0), .v (.int .u8 0), .v (.int .u8 0), .v (.int .u8 0), .v (.int .u8 0), .v (.int .u8 0), .v (.int .u8 0), .v (.int .u8 0), .v (.int .u8 0), .v (.int .u8 0), .v (.int .u8 0), .v (.int .u8 0), .v (.int .u8 0), .v (.int .u8 0), .v (.int .u8 0), .v (.int .u8 0), .v (.int .u8 0)]) := by kernel_rfl
@[go_sem] theorem Tryz.plainSrc335 : Go.Abs.plainSrc Tryz.prog 335 = false := by kernel_rfl
@[go_sem] theorem Tryz.und336 : Go.Abs.und Tryz.prog 336 = .int .u64 := by kernel_rfl
@[go_sem] theorem Tryz.siz336 : Go.Abs.siz Tryz.prog 336 = some 1 := by kernel_rfl
@[go_sem] theorem Tryz.byt336 : Go.Abs.byt Tryz.prog 336 = some 8 := by kernel_rfl
@[go_sem] theorem Tryz.azero336 : Go.Abs.aZero Tryz.prog 336 = some (1, .v (.int .u64 0)) := by kernel_rfl
@[go_sem] theorem Tryz.zer336 : Go.Abs.zer Tryz.prog 336 = some (.v (.int .u64 0)) := by kernel_rfl
@[go_sem] theorem Tryz.plainSrc336 : Go.Abs.plainSrc Tryz.prog 336 = false := by kernel_rfl
@[go_sem] theorem Tryz.und340 : Go.Abs.und Tryz.prog 340 = .pointer 3 := by kernel_rfl
@[go_sem] theorem Tryz.siz340 : Go.Abs.siz Tryz.prog 340 = some 1 := by kernel_rfl
@[go_sem] theorem Tryz.byt340 : Go.Abs.byt Tryz.prog 340 = some 8 := by kernel_rfl
@[go_sem] theorem Tryz.azero340 : Go.Abs.aZero Tryz.prog 340 = some (1, .v (.pointer none)) := by kernel_rfl
@[go_sem] theorem Tryz.zer340 : Go.Abs.zer Tryz.prog 340 = some (.v (.pointer none)) := by kernel_rfl
@[go_sem] theorem Tryz.plainSrc340 : Go.Abs.plainSrc Tryz.prog 340 = false := by kernel_rfl
@[go_sem] theorem Tryz.und342 : Go.Abs.und Tryz.prog 342 = .pointer 336 := by kernel_rfl
@[go_sem] theorem Tryz.siz342 : Go.Abs.siz Tryz.prog 342 = some 1 := by kernel_rfl
@[go_sem] theorem Tryz.byt342 : Go.Abs.byt Tryz.prog 342 = some 8 := by kernel_rfl
@[go_sem] theorem Tryz.azero342 : Go.Abs.aZero Tryz.prog 342 = some (1, .v (.pointer none)) := by kernel_rfl
@[go_sem] theorem Tryz.zer342 : Go.Abs.zer Tryz.prog 342 = some (.v (.pointer none)) := by kernel_rfl
@[go_sem] theorem Tryz.plainSrc342 : Go.Abs.plainSrc Tryz.prog 342 = false := by kernel_rfl
@[go_sem] theorem Tryz.und344 : Go.Abs.und Tryz.prog 344 = .array 32 5 := by kernel_rfl
@[go_sem] theorem Tryz.siz344 : Go.Abs.siz Tryz.prog 344 = some 32 := by kernel_rfl
@[go_sem] theorem Tryz.byt344 : Go.Abs.byt Tryz.prog 344 = some 32 := by kernel_rfl
@[go_sem] theorem Tryz.azero344 : Go.Abs.aZero Tryz.prog 344 = some (32, .agg [.v (.int .u8 0), .v (.int .u8 0), .v (.int .u8 0), .v (.int .u8 0), .v (.int .u8 0), .v (.int .u8 0), .v (.int .u8 0), .v (.int .u8 0), .v (.int .u8 0), .v (.int .u8 0), .v (.int .u8 0), .v (.int .u8 0), .v (.int .u8 0), .v (.int .u8 0), .v (.int .u8 0), .v (.int .u8 0), .v (.int .u8 0), .v (.int .u8 0), .v (.int .u8 0), .v (.int .u8 0), .v (.int .u8 0), .v (.int .u8 0), .v (.int .u8 0), .v (.int .u8 0), .v (.int .u8 0), .v (.int .u8 0), .v (.int .u8 0), .v (.int .u8 0), .v (.int .u8 0), .v (.int .u8 0), .v (.int .u8 0), .v (.int .u8 0)]) := by kernel_rfl
@[go_sem] theorem Tryz.zer344 : Go.Abs.zer Tryz.prog 344 = some (.agg [.v (.int .u8 0), .v (.int .u8 0), .v (.int .u8 0), .v (.int .u8 0), .v (.int .u8 0), .v (.int .u8 0), .v (.int .u8 0), .v (.int .u8 0), .v (.int .u8 0), .v (.int .u8 0), .v (.int .u8 0), .v (.int .u8 0), .v (.int .u8 0), .v (.int .u8 0), .v (.int .u8 0), .v (.int .u8 0), .v (.int .u8 0), .v (.int .u8 0), .v (.int .u8 0), .v (.int .u8 0), .v (.int .u8 0), .v (.int .u8 0), .v (.int .u8 0), .v (.int .u8 0), .v (.int .u8 0), .v (.int .u8 0), .v (.int .u8 0), .v (.int .u8 0), .v (.int .u8 0), .v (.int .u8 0), .v (.int .u8 0), .v (.int .u8 0)]) := by kernel_rfl
@[go_sem] theorem Tryz.plainSrc344 : Go.Abs.plainSrc Tryz.prog 344 = false := by kernel_rfl
@[go_sem] theorem Tryz.und345 : Go.Abs.und Tryz.prog 345 = .array 64 5 := by kernel_rfl
@[go_sem] theorem Tryz.siz345 : Go.Abs.siz Tryz.prog 345 = some 64 := by kernel_rfl
@[go_sem] theorem Tryz.byt345 : Go.Abs.byt Tryz.prog 345 = some 64 := by kernel_rfl
@[go_sem] theorem Tryz.azero345 : Go.Abs.aZero Tryz.prog 345 = some (64, .agg [.v (.int .u8 0), .v (.int .u8 0), .v (.int .u8 0), .v (.int .u8 0), .v (.int .u8 0), .v (.int .u8 0), .v (.int .u8 0), .v (.int .u8 0), .v (.int .u8 0), .v (.int .u8 0), .v (.int .u8 0), .v (.int .u8 0), .v (.int .u8 0), .v (.int .u8 0), .v (.int .u8 0), .v (.int .u8 0), .v (.int .u8 0), .v (.int .u8 0), .v (.int .u8 0), .v (.int .u8 0), .v (.int .u8 0), .v (.int .u8 0), .v (.int .u8 0), .v (.int .u8 0), .v (.int .u8 0), .v (.int .u8 0), .v (.int .u8 0), .v (.int .u8 0), .v (.int .u8 0), .v (.int .u8 0), .v (.int .u8 0), .v (.int .u8 0), .v (.int .u8 0), .v (.int .u8 0), .v (.int .u8 0), .v (.int .u8 0), .v (.int .u8 0), .v (.int .u8 0), .v (.int .u8 0), .v (.int .u8 0), .v (.int .u8 0), .v (.int .u8 0), .v (.int .u8 0), .v (.int .u8 0), .v (.int .u8 0), .v (.int .u8 0), .v (.int .u8 0), .v (.int .u8 0), .v (.int .u8 0), .v (.int .u8 0), .v (.int .u8 0), .v (.int .u8 0), .v (.int .u8 0), .v (.int .u8 0), .v (.int .u8 0), .v (.int .u8 0), .v (.int .u8 0), .v (.int .u8 0), .v (.int .u8 0), .v (.int .u8 0), .v (.int .u8 0), .v (.int .u8 0), .v (.int .u8 0), .v (.int .u8 0)]) := by kernel_rfl
@[go_sem] theorem Tryz.zer345 : Go.Abs.zer Tryz.prog 345 = some (.agg [.v (.int .u8 0), .v (.int .u8 0), .v (.int .u8 0), .v (.int .u8 0), .v (.int .u8 0), .v (.int .u8 0), .v (.int .u8 0), .v (.int .u8 0), .v (.int .u8 0), .v (.int .u8 0), .v (.int .u8 0), .v (.int .u8 0), .v (.int .u8 0), .v (.int .u8 0), .v (.int .u8 0), .v (.int .u8 0), .v (.int .u8 0), .v (.int .u8 0), .v (.int .u8 0), .v (.int .u8 0), .v (.int .u8 0), .v (.int .u8 0), .v (.int .u8 0), .v (.int .u8 0), .v (.int .u8 0), .v (.int .u8 0), .v (.int .u8 0), .v (.int .u8 0), .v (.int .u8 0), .v (.int .u8 0), .v (.int .u8 0), .v (.int .u8 0), .v (.int .u8 0), .v (.int .u8 0), .v (.int .u8 0), .v (.int .u8 0), .v (.int .u8 0), .v (.int .u8 0), .v (.int .u8 0), .v (.int .u8 0), .v (.int .u8 0), .v (.int .u8 0), .v (.int .u8 0), .v (.int .u8 0), .v (.int .u8 0), .v (.int .u8 0), .v (.int .u8 0), .v (.int .u8 0), .v (.int .u8 0), .v (.int .u8 0), .v (.int .u8 0), .v (.int .u8 0), .v (.int .u8 0), .v (.int .u8 0), .v (.int .u8 0), .v (.int .u8 0), .v (.int .u8 0), .v (.int .u8 0), .v (.int .u8 0), .v (.int .u8 0), .v (.int .u8 0), .v (.int .u8 0), .v (.int .u8 0), .v (.int .u8 0)]) := by kernel_rfl
@[go_sem] theorem Tryz.plainSrc345 : Go.Abs.plainSrc Tryz.prog 345 = false := by kernel_rfl
@[go_sem] theorem Tryz.und346 : Go.Abs.und Tryz.prog 346 = .struct #[⟨ "_interface", 17, 0, false, "", "runtime", 0⟩, ⟨ "concrete", 17, 1, false, "", "runtime", 8⟩, ⟨ "asserted", 17, 2, false, "", "runtime", 16⟩, ⟨ "missingMethod", 9, 3, false, "", "runtime", 24⟩] := by kernel_rfl
@[go_sem] theorem Tryz.siz346 : Go.Abs.siz Tryz.prog 346 = some 4 := by kernel_rfl
@[go_sem] theorem Tryz.byt346 : Go.Abs.byt Tryz.prog 346 = some 40 := by kernel_rfl
@[go_sem] theorem Tryz.azero346 : Go.Abs.aZero Tryz.prog 346 = some (4, .agg [.v (.pointer none), .v (.pointer none), .v (.pointer none), .v (.string ByteArray.empty)]) := by kernel_rfl
@[go_sem] theorem Tryz.zer346 : Go.Abs.zer Tryz.prog 346 = some (.agg [.v (.pointer none), .v (.pointer none), .v (.pointer none), .v (.string ByteArray.empty)]) := by kernel_rfl
@[go_sem] theorem Tryz.plainSrc346 : Go.Abs.plainSrc Tryz.prog 346 = false := by kernel_rfl
@[go_sem] theorem Tryz.fld346_0 : Go.Abs.fld Tryz.prog 346 0 = some (0, 1, false) := by kernel_rfl
@[go_sem] theorem Tryz.fld346_1 : Go.Abs.fld Tryz.prog 346 1 = some (1, 1, false) := by kernel_rfl
@[go_sem] theorem Tryz.fld346_2 : Go.Abs.fld Tryz.prog 346 2 = some (2, 1, false) := by kernel_rfl
@[go_sem] theorem Tryz.fld346_3 : Go.Abs.fld Tryz.prog 346 3 = some (3, 1, false) := by kernel_rfl
@[go_sem] theorem Tryz.und347 : Go.Abs.und Tryz.prog 347 = .struct #[⟨ "_interface", 17, 0, false, "", "runtime", 0⟩, ⟨ "concrete", 17, 1, false, "", "runtime", 8⟩, ⟨ "asserted", 17, 2, false, "", "runtime", 16⟩, ⟨ "missingMethod", 9, 3, false, "", "runtime", 24⟩] := by kernel_rfl
@[go_sem] theorem Tryz.siz347 : Go.Abs.siz Tryz.prog 347 = some 4 := by kernel_rfl
@[go_sem] theorem Tryz.byt347 : Go.Abs.byt Tryz.prog 347 = some 40 := by kernel_rfl
@[go_sem] theorem Tryz.azero347 : Go.Abs.aZero Tryz.prog 347 = some (4, .agg [.v (.pointer none), .v (.pointer none), .v (.pointer none), .v (.string ByteArray.empty)]) := by kernel_rfl
@[go_sem] theorem Tryz.zer347 : Go.Abs.zer Tryz.prog 347 = some (.agg [.v (.pointer none), .v (.pointer none), .v (.pointer none), .v (.string ByteArray.empty)]) := by kernel_rfl
@[go_sem] theorem Tryz.plainSrc347 : Go.Abs.plainSrc Tryz.prog 347 = false := by kernel_rfl
@[go_sem] theorem Tryz.fld347_0 : Go.Abs.fld Tryz.prog 347 0 = some (0, 1, false) := by kernel_rfl
@[go_sem] theorem Tryz.fld347_1 : Go.Abs.fld Tryz.prog 347 1 = some (1, 1, false) := by kernel_rfl
@[go_sem] theorem Tryz.fld347_2 : Go.Abs.fld Tryz.prog 347 2 = some (2, 1, false) := by kernel_rfl
@[go_sem] theorem Tryz.fld347_3 : Go.Abs.fld Tryz.prog 347 3 = some (3, 1, false) := by kernel_rfl
@[go_sem] theorem Tryz.und348 : Go.Abs.und Tryz.prog 348 = .array 0 16 := by kernel_rfl
@[go_sem] theorem Tryz.siz348 : Go.Abs.siz Tryz.prog 348 = some 0 := by kernel_rfl
@[go_sem] theorem Tryz.byt348 : Go.Abs.byt Tryz.prog 348 = some 0 := by kernel_rfl
@[go_sem] theorem Tryz.azero348 : Go.Abs.aZero Tryz.prog 348 = some (0, .agg []) := by kernel_rfl
@[go_sem] theorem Tryz.zer348 : Go.Abs.zer Tryz.prog 348 = some (.agg []) := by kernel_rfl
@[go_sem] theorem Tryz.plainSrc348 : Go.Abs.plainSrc Tryz.prog 348 = false := by kernel_rfl
@[go_sem] theorem Tryz.und349 : Go.Abs.und Tryz.prog 349 = .struct #[⟨ "_", 348, 0, false, "", "runtime", 0⟩] := by kernel_rfl
@[go_sem] theorem Tryz.siz349 : Go.Abs.siz Tryz.prog 349 = some 0 := by kernel_rfl
@[go_sem] theorem Tryz.byt349 : Go.Abs.byt Tryz.prog 349 = some 0 := by kernel_rfl
@[go_sem] theorem Tryz.azero349 : Go.Abs.aZero Tryz.prog 349 = some (0, .agg []) := by kernel_rfl
@[go_sem] theorem Tryz.zer349 : Go.Abs.zer Tryz.prog 349 = some (.agg []) := by kernel_rfl
@[go_sem] theorem Tryz.plainSrc349 : Go.Abs.plainSrc Tryz.prog 349 = false := by kernel_rfl
@[go_sem] theorem Tryz.fld349_0 : Go.Abs.fld Tryz.prog 349 0 = some (0, 0, true) := by kernel_rfl
@[go_sem] theorem Tryz.und350 : Go.Abs.und Tryz.prog 350 = .struct #[⟨ "_", 348, 0, false, "", "runtime", 0⟩] := by kernel_rfl
@[go_sem] theorem Tryz.siz350 : Go.Abs.siz Tryz.prog 350 = some 0 := by kernel_rfl
@[go_sem] theorem Tryz.byt350 : Go.Abs.byt Tryz.prog 350 = some 0 := by kernel_rfl
@[go_sem] theorem Tryz.azero350 : Go.Abs.aZero Tryz.prog 350 = some (0, .agg []) := by kernel_rfl
@[go_sem] theorem Tryz.zer350 : Go.Abs.zer Tryz.prog 350 = some (.agg []) := by kernel_rfl
@[go_sem] theorem Tryz.plainSrc350 : Go.Abs.plainSrc Tryz.prog 350 = false := by kernel_rfl
@[go_sem] theorem Tryz.fld350_0 : Go.Abs.fld Tryz.prog 350 0 = some (0, 0, true) := by kernel_rfl
@[go_sem] theorem Tryz.und351 : Go.Abs.und Tryz.prog 351 = .int .u8 := by kernel_rfl
@[go_sem] theorem Tryz.siz351 : Go.Abs.siz Tryz.prog 351 = some 1 := by kernel_rfl
@[go_sem] theorem Tryz.byt351 : Go.Abs.byt Tryz.prog 351 = some 1 := by kernel_rfl
@[go_sem] theorem Tryz.azero351 : Go.Abs.aZero Tryz.prog 351 = some (1, .v (.int .u8 0)) := by kernel_rfl
@[go_sem] theorem Tryz.zer351 : Go.Abs.zer Tryz.prog 351 = some (.v (.int .u8 0)) := by kernel_rfl
@[go_sem] theorem Tryz.plainSrc351 : Go.Abs.plainSrc Tryz.prog 351 = false := by kernel_rfl
@[go_sem] theorem Tryz.und352 : Go.Abs.und Tryz.prog 352 = .int .u8 := by kernel_rfl
@[go_sem] theorem Tryz.siz352 : Go.Abs.siz Tryz.prog 352 = some 1 := by kernel_rfl
@[go_sem] theorem Tryz.byt352 : Go.Abs.byt Tryz.prog 352 = some 1 := by kernel_rfl
@[go_sem] theorem Tryz.azero352 : Go.Abs.aZero Tryz.prog 352 = some (1, .v (.int .u8 0)) := by kernel_rfl
@[go_sem] theorem Tryz.zer352 : Go.Abs.zer Tryz.prog 352 = some (.v (.int .u8 0)) := by kernel_rfl
@[go_sem] theorem Tryz.plainSrc352 : Go.Abs.plainSrc Tryz.prog 352 = false := by kernel_rfl
@[go_sem] theorem Tryz.und354 : Go.Abs.und Tryz.prog 354 = .pointer 5 := by kernel_rfl
@[go_sem] theorem Tryz.siz354 : Go.Abs.siz Tryz.prog 354 = some 1 := by kernel_rfl
@[go_sem] theorem Tryz.byt354 : Go.Abs.byt Tryz.prog 354 = some 8 := by kernel_rfl
@[go_sem] theorem Tryz.azero354 : Go.Abs.aZero Tryz.prog 354 = some (1, .v (.pointer none)) := by kernel_rfl
@[go_sem] theorem Tryz.zer354 : Go.Abs.zer Tryz.prog 354 = some (.v (.pointer none)) := by kernel_rfl
@[go_sem] theorem Tryz.plainSrc354 : Go.Abs.plainSrc Tryz.prog 354 = false := by kernel_rfl
@[go_sem] theorem Tryz.und355 : Go.Abs.und Tryz.prog 355 = .int .i32 := by kernel_rfl
@[go_sem] theorem Tryz.siz355 : Go.Abs.siz Tryz.prog 355 = some 1 := by kernel_rfl
@[go_sem] theorem Tryz.byt355 : Go.Abs.byt Tryz.prog 355 = some 4 := by kernel_rfl
@[go_sem] theorem Tryz.azero355 : Go.Abs.aZero Tryz.prog 355 = some (1, .v (.int .i32 0)) := by kernel_rfl
@[go_sem] theorem Tryz.zer355 : Go.Abs.zer Tryz.prog 355 = some (.v (.int .i32 0)) := by kernel_rfl
@[go_sem] theorem Tryz.plainSrc355 : Go.Abs.plainSrc Tryz.prog 355 = false := by kernel_rfl
@[go_sem] theorem Tryz.und356 : Go.Abs.und Tryz.prog 356 = .int .i32 := by kernel_rfl
@[go_sem] theorem Tryz.siz356 : Go.Abs.siz Tryz.prog 356 = some 1 := by kernel_rfl
@[go_sem] theorem Tryz.byt356 : Go.Abs.byt Tryz.prog 356 = some 4 := by kernel_rfl
@[go_sem] theorem Tryz.azero356 : Go.Abs.aZero Tryz.prog 356 = some (1, .v (.int .i32 0)) := by kernel_rfl
@[go_sem] theorem Tryz.zer356 : Go.Abs.zer Tryz.prog 356 = some (.v (.int .i32 0)) := by kernel_rfl
@[go_sem] theorem Tryz.plainSrc356 : Go.Abs.plainSrc Tryz.prog 356 = false := by kernel_rfl
@[go_sem] theorem Tryz.und357 : Go.Abs.und Tryz.prog 357 = .struct #[⟨ "Size_", 12, 0, false, "", "", 0⟩, ⟨ "PtrBytes", 12, 1, false, "", "", 8⟩, ⟨ "Hash", 286, 2, false, "", "", 16⟩, ⟨ "TFlag", 351, 3, false, "", "", 20⟩, ⟨ "Align_", 5, 4, false, "", "", 21⟩, ⟨ "FieldAlign_", 5, 5, false, "", "", 22⟩, ⟨ "Kind_", 352, 6, false, "", "", 23⟩, ⟨ "Equal", 353, 7, false, "", "", 24⟩, ⟨ "GCData", 354, 8, false, "", "", 32⟩, ⟨ "Str", 355, 9, false, "", "", 40⟩, ⟨ "PtrToThis", 356, 10, false, "", "", 44⟩] := by kernel_rfl
@[go_sem] theorem Tryz.siz357 : Go.Abs.siz Tryz.prog 357 = some 11 := by kernel_rfl
@[go_sem] theorem Tryz.byt357 : Go.Abs.byt Tryz.prog 357 = some 48 := by kernel_rfl
@[go_sem] theorem Tryz.azero357 : Go.Abs.aZero Tryz.prog 357 = some (11, .agg [.v (.int .u64 0), .v (.int .u64 0), .v (.int .u32 0), .v (.int .u8 0), .v (.int .u8 0), .v (.int .u8 0), .v (.int .u8 0), .v (.nilFunc), .v (.pointer none), .v (.int .i32 0), .v (.int .i32 0)]) := by kernel_rfl
@[go_sem] theorem Tryz.zer357 : Go.Abs.zer Tryz.prog 357 = some (.agg [.v (.int .u64 0), .v (.int .u64 0), .v (.int .u32 0), .v (.int .u8 0), .v (.int .u8 0), .v (.int .u8 0), .v (.int .u8 0), .v (.nilFunc), .v (.pointer none), .v (.int .i32 0), .v (.int .i32 0)]) := by kernel_rfl
@[go_sem] theorem Tryz.plainSrc357 : Go.Abs.plainSrc Tryz.prog 357 = false := by kernel_rfl
@[go_sem] theorem Tryz.fld357_0 : Go.Abs.fld Tryz.prog 357 0 = some (0, 1, false) := by kernel_rfl
@[go_sem] theorem Tryz.fld357_1 : Go.Abs.fld Tryz.prog 357 1 = some (1, 1, false) := by kernel_rfl
@[go_sem] theorem Tryz.fld357_2 : Go.Abs.fld Tryz.prog 357 2 = some (2, 1, false) := by kernel_rfl
@[go_sem] theorem Tryz.fld357_3 : Go.Abs.fld Tryz.prog 357 3 = some (3, 1, false) := by kernel_rfl
@[go_sem] theorem Tryz.fld357_4 : Go.Abs.fld Tryz.prog 357 4 = some (4, 1, false) := by kernel_rfl
@[go_sem] theorem Tryz.fld357_5 : Go.Abs.fld Tryz.prog 357 5 = some (5, 1, false) := by kernel_rfl
@[go_sem] theorem Tryz.fld357_6 : Go.Abs.fld Tryz.prog 357 6 = some (6, 1, false) := by kernel_rfl
@[go_sem] theorem Tryz.fld357_7 : Go.Abs.fld Tryz.prog 357 7 = some (7, 1, false) := by kernel_rfl
@[go_sem] theorem Tryz.fld357_8 : Go.Abs.fld Tryz.prog 357 8 = some (8, 1, false) := by kernel_rfl
@[go_sem] theorem Tryz.fld357_9 : Go.Abs.fld Tryz.prog 357 9 = some (9, 1, false) := by kernel_rfl
@[go_sem] theorem Tryz.fld357_10 : Go.Abs.fld Tryz.prog 357 10 = some (10, 1, false) := by kernel_rfl
@[go_sem] theorem Tryz.und358 : Go.Abs.und Tryz.prog 358 = .struct #[⟨ "Size_", 12, 0, false, "", "", 0⟩, ⟨ "PtrBytes", 12, 1, false, "", "", 8⟩, ⟨ "Hash", 286, 2, false, "", "", 16⟩, ⟨ "TFlag", 351, 3, false, "", "", 20⟩, ⟨ "Align_", 5, 4, false, "", "", 21⟩, ⟨ "FieldAlign_", 5, 5, false, "", "", 22⟩, ⟨ "Kind_", 352, 6, false, "", "", 23⟩, ⟨ "Equal", 353, 7, false, "", "", 24⟩, ⟨ "GCData", 354, 8, false, "", "", 32⟩, ⟨ "Str", 355, 9, false, "", "", 40⟩, ⟨ "PtrToThis", 356, 10, false, "", "", 44⟩] := by kernel_rfl
@[go_sem] theorem Tryz.siz358 : Go.Abs.siz Tryz.prog 358 = some 11 := by kernel_rfl
@[go_sem] theorem Tryz.byt358 : Go.Abs.byt Tryz.prog 358 = some 48 := by kernel_rfl
@[go_sem] theorem Tryz.azero358 : Go.Abs.aZero Tryz.prog 358 = some (11, .agg [.v (.int .u64 0), .v (.int .u64 0), .v (.int .u32 0), .v (.int .u8 0), .v (.int .u8 0), .v (.int .u8 0), .v (.int .u8 0), .v (.nilFunc), .v (.pointer none), .v (.int .i32 0), .v (.int .i32 0)]) := by kernel_rfl
@[go_sem] theorem Tryz.zer358 : Go.Abs.zer Tryz.prog 358 = some (.agg [.v (.int .u64 0), .v (.int .u64 0), .v (.int .u32 0), .v (.int .u8 0), .v (.int .u8 0), .v (.int .u8 0), .v (.int .u8 0), .v (.nilFunc), .v (.pointer none), .v (.int .i32 0), .v (.int .i32 0)]) := by kernel_rfl
@[go_sem] theorem Tryz.plainSrc358 : Go.Abs.plainSrc Tryz.prog 358 = false := by kernel_rfl
@[go_sem] theorem Tryz.fld358_0 : Go.Abs.fld Tryz.prog 358 0 = some (0, 1, false) := by kernel_rfl
@[go_sem] theorem Tryz.fld358_1 : Go.Abs.fld Tryz.prog 358 1 = some (1, 1, false) := by kernel_rfl
@[go_sem] theorem Tryz.fld358_2 : Go.Abs.fld Tryz.prog 358 2 = some (2, 1, false) := by kernel_rfl
@[go_sem] theorem Tryz.fld358_3 : Go.Abs.fld Tryz.prog 358 3 = some (3, 1, false) := by kernel_rfl
@[go_sem] theorem Tryz.fld358_4 : Go.Abs.fld Tryz.prog 358 4 = some (4, 1, false) := by kernel_rfl
@[go_sem] theorem Tryz.fld358_5 : Go.Abs.fld Tryz.prog 358 5 = some (5, 1, false) := by kernel_rfl
@[go_sem] theorem Tryz.fld358_6 : Go.Abs.fld Tryz.prog 358 6 = some (6, 1, false) := by kernel_rfl
@[go_sem] theorem Tryz.fld358_7 : Go.Abs.fld Tryz.prog 358 7 = some (7, 1, false) := by kernel_rfl
@[go_sem] theorem Tryz.fld358_8 : Go.Abs.fld Tryz.prog 358 8 = some (8, 1, false) := by kernel_rfl
@[go_sem] theorem Tryz.fld358_9 : Go.Abs.fld Tryz.prog 358 9 = some (9, 1, false) := by kernel_rfl
@[go_sem] theorem Tryz.fld358_10 : Go.Abs.fld Tryz.prog 358 10 = some (10, 1, false) := by kernel_rfl
@[go_sem] theorem Tryz.und360 : Go.Abs.und Tryz.prog 360 = .slice 135 := by kernel_rfl
@[go_sem] theorem Tryz.siz360 : Go.Abs.siz Tryz.prog 360 = some 1 := by kernel_rfl
@[go_sem] theorem Tryz.byt360 : Go.Abs.byt Tryz.prog 360 = some 24 := by kernel_rfl
@[go_sem] theorem Tryz.azero360 : Go.Abs.aZero Tryz.prog 360 = some (1, .v (.slice none 0 0)) := by kernel_rfl
@[go_sem] theorem Tryz.zer360 : Go.Abs.zer Tryz.prog 360 = some (.v (.slice none 0 0)) := by kernel_rfl
@[go_sem] theorem Tryz.plainSrc360 : Go.Abs.plainSrc Tryz.prog 360 = true := by kernel_rfl
@[go_sem] theorem Tryz.und361 : Go.Abs.und Tryz.prog 361 = .unsafePointer := by kernel_rfl
@[go_sem] theorem Tryz.siz361 : Go.Abs.siz Tryz.prog 361 = some 1 := by kernel_rfl
@[go_sem] theorem Tryz.byt361 : Go.Abs.byt Tryz.prog 361 = some 8 := by kernel_rfl
@[go_sem] theorem Tryz.azero361 : Go.Abs.aZero Tryz.prog 361 = some (1, .v (.pointer none)) := by kernel_rfl
@[go_sem] theorem Tryz.zer361 : Go.Abs.zer Tryz.prog 361 = some (.v (.pointer none)) := by kernel_rfl
@[go_sem] theorem Tryz.plainSrc361 : Go.Abs.plainSrc Tryz.prog 361 = false := by kernel_rfl
end Go.Proofs
