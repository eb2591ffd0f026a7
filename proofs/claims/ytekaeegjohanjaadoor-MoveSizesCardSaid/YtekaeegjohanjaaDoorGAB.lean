import Derived.Test.YtekaeegjohanjaaDoorAbE
import Derived.Test.YtekaeegjohanjaaDoorProg
set_option linter.all false
namespace Go.Proofs
@[go_sem] theorem Tryd.und2 : Go.Abs.und Tryd.prog 2 = .int .i64 := by kernel_rfl
@[go_sem] theorem Tryd.siz2 : Go.Abs.siz Tryd.prog 2 = some 1 := by kernel_rfl
@[go_sem] theorem Tryd.byt2 : Go.Abs.byt Tryd.prog 2 = some 8 := by kernel_rfl
@[go_sem] theorem Tryd.azero2 : Go.Abs.aZero Tryd.prog 2 = some (1, .v (.int .i64 0)) := by kernel_rfl
@[go_sem] theorem Tryd.zer2 : Go.Abs.zer Tryd.prog 2 = some (.v (.int .i64 0)) := by kernel_rfl
@[go_sem] theorem Tryd.plainSrc2 : Go.Abs.plainSrc Tryd.prog 2 = false := by kernel_rfl
@[go_sem] theorem Tryd.und3 : Go.Abs.und Tryd.prog 3 = .int .i64 := by kernel_rfl
@[go_sem] theorem Tryd.siz3 : Go.Abs.siz Tryd.prog 3 = some 1 := by kernel_rfl
@[go_sem] theorem Tryd.byt3 : Go.Abs.byt Tryd.prog 3 = some 8 := by kernel_rfl
@[go_sem] theorem Tryd.azero3 : Go.Abs.aZero Tryd.prog 3 = some (1, .v (.int .i64 0)) := by kernel_rfl
@[go_sem] theorem Tryd.zer3 : Go.Abs.zer Tryd.prog 3 = some (.v (.int .i64 0)) := by kernel_rfl
@[go_sem] theorem Tryd.plainSrc3 : Go.Abs.plainSrc Tryd.prog 3 = false := by kernel_rfl
@[go_sem] theorem Tryd.und4 : Go.Abs.und Tryd.prog 4 = .bool := by kernel_rfl
@[go_sem] theorem Tryd.siz4 : Go.Abs.siz Tryd.prog 4 = some 1 := by kernel_rfl
@[go_sem] theorem Tryd.byt4 : Go.Abs.byt Tryd.prog 4 = some 1 := by kernel_rfl
@[go_sem] theorem Tryd.azero4 : Go.Abs.aZero Tryd.prog 4 = some (1, .v (.bool false)) := by kernel_rfl
@[go_sem] theorem Tryd.zer4 : Go.Abs.zer Tryd.prog 4 = some (.v (.bool false)) := by kernel_rfl
@[go_sem] theorem Tryd.plainSrc4 : Go.Abs.plainSrc Tryd.prog 4 = false := by kernel_rfl
@[go_sem] theorem Tryd.und5 : Go.Abs.und Tryd.prog 5 = .int .u8 := by kernel_rfl
@[go_sem] theorem Tryd.siz5 : Go.Abs.siz Tryd.prog 5 = some 1 := by kernel_rfl
@[go_sem] theorem Tryd.byt5 : Go.Abs.byt Tryd.prog 5 = some 1 := by kernel_rfl
@[go_sem] theorem Tryd.azero5 : Go.Abs.aZero Tryd.prog 5 = some (1, .v (.int .u8 0)) := by kernel_rfl
@[go_sem] theorem Tryd.zer5 : Go.Abs.zer Tryd.prog 5 = some (.v (.int .u8 0)) := by kernel_rfl
@[go_sem] theorem Tryd.plainSrc5 : Go.Abs.plainSrc Tryd.prog 5 = false := by kernel_rfl
@[go_sem] theorem Tryd.und6 : Go.Abs.und Tryd.prog 6 = .int .u8 := by kernel_rfl
@[go_sem] theorem Tryd.siz6 : Go.Abs.siz Tryd.prog 6 = some 1 := by kernel_rfl
@[go_sem] theorem Tryd.byt6 : Go.Abs.byt Tryd.prog 6 = some 1 := by kernel_rfl
@[go_sem] theorem Tryd.azero6 : Go.Abs.aZero Tryd.prog 6 = some (1, .v (.int .u8 0)) := by kernel_rfl
@[go_sem] theorem Tryd.zer6 : Go.Abs.zer Tryd.prog 6 = some (.v (.int .u8 0)) := by kernel_rfl
@[go_sem] theorem Tryd.plainSrc6 : Go.Abs.plainSrc Tryd.prog 6 = false := by kernel_rfl
@[go_sem] theorem Tryd.und7 : Go.Abs.und Tryd.prog 7 = .struct #[⟨ "x", 2, 0, false, "", "runtime", 0⟩, ⟨ "y", 3, 1, false, "", "runtime", 8⟩, ⟨ "signed", 4, 2, false, "", "runtime", 16⟩, ⟨ "code", 6, 3, false, "", "runtime", 17⟩] := by kernel_rfl
@[go_sem] theorem Tryd.siz7 : Go.Abs.siz Tryd.prog 7 = some 4 := by kernel_rfl
@[go_sem] theorem Tryd.byt7 : Go.Abs.byt Tryd.prog 7 = some 24 := by kernel_rfl
@[go_sem] theorem Tryd.azero7 : Go.Abs.aZero Tryd.prog 7 = some (4, .agg [.v (.int .i64 0), .v (.int .i64 0), .v (.bool false), .v (.int .u8 0)]) := by kernel_rfl
@[go_sem] theorem Tryd.zer7 : Go.Abs.zer Tryd.prog 7 = some (.agg [.v (.int .i64 0), .v (.int .i64 0), .v (.bool false), .v (.int .u8 0)]) := by kernel_rfl
@[go_sem] theorem Tryd.plainSrc7 : Go.Abs.plainSrc Tryd.prog 7 = false := by kernel_rfl
@[go_sem] theorem Tryd.fld7_0 : Go.Abs.fld Tryd.prog 7 0 = some (0, 1, false) := by kernel_rfl
@[go_sem] theorem Tryd.fld7_1 : Go.Abs.fld Tryd.prog 7 1 = some (1, 1, false) := by kernel_rfl
@[go_sem] theorem Tryd.fld7_2 : Go.Abs.fld Tryd.prog 7 2 = some (2, 1, false) := by kernel_rfl
@[go_sem] theorem Tryd.fld7_3 : Go.Abs.fld Tryd.prog 7 3 = some (3, 1, false) := by kernel_rfl
@[go_sem] theorem Tryd.und8 : Go.Abs.und Tryd.prog 8 = .struct #[⟨ "x", 2, 0, false, "", "runtime", 0⟩, ⟨ "y", 3, 1, false, "", "runtime", 8⟩, ⟨ "signed", 4, 2, false, "", "runtime", 16⟩, ⟨ "code", 6, 3, false, "", "runtime", 17⟩] := by kernel_rfl
@[go_sem] theorem Tryd.siz8 : Go.Abs.siz Tryd.prog 8 = some 4 := by kernel_rfl
@[go_sem] theorem Tryd.byt8 : Go.Abs.byt Tryd.prog 8 = some 24 := by kernel_rfl
@[go_sem] theorem Tryd.azero8 : Go.Abs.aZero Tryd.prog 8 = some (4, .agg [.v (.int .i64 0), .v (.int .i64 0), .v (.bool false), .v (.int .u8 0)]) := by kernel_rfl
@[go_sem] theorem Tryd.zer8 : Go.Abs.zer Tryd.prog 8 = some (.agg [.v (.int .i64 0), .v (.int .i64 0), .v (.bool false), .v (.int .u8 0)]) := by kernel_rfl
@[go_sem] theorem Tryd.plainSrc8 : Go.Abs.plainSrc Tryd.prog 8 = false := by kernel_rfl
@[go_sem] theorem Tryd.fld8_0 : Go.Abs.fld Tryd.prog 8 0 = some (0, 1, false) := by kernel_rfl
@[go_sem] theorem Tryd.fld8_1 : Go.Abs.fld Tryd.prog 8 1 = some (1, 1, false) := by kernel_rfl
@[go_sem] theorem Tryd.fld8_2 : Go.Abs.fld Tryd.prog 8 2 = some (2, 1, false) := by kernel_rfl
@[go_sem] theorem Tryd.fld8_3 : Go.Abs.fld Tryd.prog 8 3 = some (3, 1, false) := by kernel_rfl
@[go_sem] theorem Tryd.und9 : Go.Abs.und Tryd.prog 9 = .string := by kernel_rfl
@[go_sem] theorem Tryd.siz9 : Go.Abs.siz Tryd.prog 9 = some 1 := by kernel_rfl
@[go_sem] theorem Tryd.byt9 : Go.Abs.byt Tryd.prog 9 = some 16 := by kernel_rfl
@[go_sem] theorem Tryd.azero9 : Go.Abs.aZero Tryd.prog 9 = some (1, .v (.string ByteArray.empty)) := by kernel_rfl
@[go_sem] theorem Tryd.zer9 : Go.Abs.zer Tryd.prog 9 = some (.v (.string ByteArray.empty)) := by kernel_rfl
@[go_sem] theorem Tryd.plainSrc9 : Go.Abs.plainSrc Tryd.prog 9 = true := by kernel_rfl
@[go_sem] theorem Tryd.und10 : Go.Abs.und Tryd.prog 10 = .string := by kernel_rfl
@[go_sem] theorem Tryd.siz10 : Go.Abs.siz Tryd.prog 10 = some 1 := by kernel_rfl
@[go_sem] theorem Tryd.byt10 : Go.Abs.byt Tryd.prog 10 = some 16 := by kernel_rfl
@[go_sem] theorem Tryd.azero10 : Go.Abs.aZero Tryd.prog 10 = some (1, .v (.string ByteArray.empty)) := by kernel_rfl
@[go_sem] theorem Tryd.zer10 : Go.Abs.zer Tryd.prog 10 = some (.v (.string ByteArray.empty)) := by kernel_rfl
@[go_sem] theorem Tryd.plainSrc10 : Go.Abs.plainSrc Tryd.prog 10 = true := by kernel_rfl
@[go_sem] theorem Tryd.und11 : Go.Abs.und Tryd.prog 11 = .string := by kernel_rfl
@[go_sem] theorem Tryd.siz11 : Go.Abs.siz Tryd.prog 11 = some 1 := by kernel_rfl
@[go_sem] theorem Tryd.byt11 : Go.Abs.byt Tryd.prog 11 = some 16 := by kernel_rfl
@[go_sem] theorem Tryd.azero11 : Go.Abs.aZero Tryd.prog 11 = some (1, .v (.string ByteArray.empty)) := by kernel_rfl
@[go_sem] theorem Tryd.zer11 : Go.Abs.zer Tryd.prog 11 = some (.v (.string ByteArray.empty)) := by kernel_rfl
@[go_sem] theorem Tryd.plainSrc11 : Go.Abs.plainSrc Tryd.prog 11 = true := by kernel_rfl
@[go_sem] theorem Tryd.und12 : Go.Abs.und Tryd.prog 12 = .int .u64 := by kernel_rfl
@[go_sem] theorem Tryd.siz12 : Go.Abs.siz Tryd.prog 12 = some 1 := by kernel_rfl
@[go_sem] theorem Tryd.byt12 : Go.Abs.byt Tryd.prog 12 = some 8 := by kernel_rfl
@[go_sem] theorem Tryd.azero12 : Go.Abs.aZero Tryd.prog 12 = some (1, .v (.int .u64 0)) := by kernel_rfl
@[go_sem] theorem Tryd.zer12 : Go.Abs.zer Tryd.prog 12 = some (.v (.int .u64 0)) := by kernel_rfl
@[go_sem] theorem Tryd.plainSrc12 : Go.Abs.plainSrc Tryd.prog 12 = false := by kernel_rfl
@[go_sem] theorem Tryd.und13 : Go.Abs.und Tryd.prog 13 = .struct #[⟨ "msg", 9, 0, false, "", "runtime", 0⟩, ⟨ "addr", 12, 1, false, "", "runtime", 16⟩] := by kernel_rfl
@[go_sem] theorem Tryd.siz13 : Go.Abs.siz Tryd.prog 13 = some 2 := by kernel_rfl
@[go_sem] theorem Tryd.byt13 : Go.Abs.byt Tryd.prog 13 = some 24 := by kernel_rfl
@[go_sem] theorem Tryd.azero13 : Go.Abs.aZero Tryd.prog 13 = some (2, .agg [.v (.string ByteArray.empty), .v (.int .u64 0)]) := by kernel_rfl
@[go_sem] theorem Tryd.zer13 : Go.Abs.zer Tryd.prog 13 = some (.agg [.v (.string ByteArray.empty), .v (.int .u64 0)]) := by kernel_rfl
@[go_sem] theorem Tryd.plainSrc13 : Go.Abs.plainSrc Tryd.prog 13 = false := by kernel_rfl
@[go_sem] theorem Tryd.fld13_0 : Go.Abs.fld Tryd.prog 13 0 = some (0, 1, false) := by kernel_rfl
@[go_sem] theorem Tryd.fld13_1 : Go.Abs.fld Tryd.prog 13 1 = some (1, 1, false) := by kernel_rfl
@[go_sem] theorem Tryd.und14 : Go.Abs.und Tryd.prog 14 = .struct #[⟨ "msg", 9, 0, false, "", "runtime", 0⟩, ⟨ "addr", 12, 1, false, "", "runtime", 16⟩] := by kernel_rfl
@[go_sem] theorem Tryd.siz14 : Go.Abs.siz Tryd.prog 14 = some 2 := by kernel_rfl
@[go_sem] theorem Tryd.byt14 : Go.Abs.byt Tryd.prog 14 = some 24 := by kernel_rfl
@[go_sem] theorem Tryd.azero14 : Go.Abs.aZero Tryd.prog 14 = some (2, .agg [.v (.string ByteArray.empty), .v (.int .u64 0)]) := by kernel_rfl
@[go_sem] theorem Tryd.zer14 : Go.Abs.zer Tryd.prog 14 = some (.agg [.v (.string ByteArray.empty), .v (.int .u64 0)]) := by kernel_rfl
@[go_sem] theorem Tryd.plainSrc14 : Go.Abs.plainSrc Tryd.prog 14 = false := by kernel_rfl
@[go_sem] theorem Tryd.fld14_0 : Go.Abs.fld Tryd.prog 14 0 = some (0, 1, false) := by kernel_rfl
@[go_sem] theorem Tryd.fld14_1 : Go.Abs.fld Tryd.prog 14 1 = some (1, 1, false) := by kernel_rfl
@[go_sem] theorem Tryd.und15 : Go.Abs.und Tryd.prog 15 = .pointer 155 := by kernel_rfl
@[go_sem] theorem Tryd.siz15 : Go.Abs.siz Tryd.prog 15 = some 1 := by kernel_rfl
@[go_sem] theorem Tryd.byt15 : Go.Abs.byt Tryd.prog 15 = some 8 := by kernel_rfl
@[go_sem] theorem Tryd.azero15 : Go.Abs.aZero Tryd.prog 15 = some (1, .v (.pointer none)) := by kernel_rfl
@[go_sem] theorem Tryd.zer15 : Go.Abs.zer Tryd.prog 15 = some (.v (.pointer none)) := by kernel_rfl
@[go_sem] theorem Tryd.plainSrc15 : Go.Abs.plainSrc Tryd.prog 15 = false := by kernel_rfl
@[go_sem] theorem Tryd.und16 : Go.Abs.und Tryd.prog 16 = .pointer 158 := by kernel_rfl
@[go_sem] theorem Tryd.siz16 : Go.Abs.siz Tryd.prog 16 = some 1 := by kernel_rfl
@[go_sem] theorem Tryd.byt16 : Go.Abs.byt Tryd.prog 16 = some 8 := by kernel_rfl
@[go_sem] theorem Tryd.azero16 : Go.Abs.aZero Tryd.prog 16 = some (1, .v (.pointer none)) := by kernel_rfl
@[go_sem] theorem Tryd.zer16 : Go.Abs.zer Tryd.prog 16 = some (.v (.pointer none)) := by kernel_rfl
@[go_sem] theorem Tryd.plainSrc16 : Go.Abs.plainSrc Tryd.prog 16 = false := by kernel_rfl
@[go_sem] theorem Tryd.und17 : Go.Abs.und Tryd.prog 17 = .pointer 166 := by kernel_rfl
@[go_sem] theorem Tryd.siz17 : Go.Abs.siz Tryd.prog 17 = some 1 := by kernel_rfl
@[go_sem] theorem Tryd.byt17 : Go.Abs.byt Tryd.prog 17 = some 8 := by kernel_rfl
@[go_sem] theorem Tryd.azero17 : Go.Abs.aZero Tryd.prog 17 = some (1, .v (.pointer none)) := by kernel_rfl
@[go_sem] theorem Tryd.zer17 : Go.Abs.zer Tryd.prog 17 = some (.v (.pointer none)) := by kernel_rfl
@[go_sem] theorem Tryd.plainSrc17 : Go.Abs.plainSrc Tryd.prog 17 = false := by kernel_rfl
@[go_sem] theorem Tryd.und18 : Go.Abs.und Tryd.prog 18 = .struct #[⟨ "typ", 17, 0, false, "", "internal/runtime/maps", 0⟩] := by kernel_rfl
@[go_sem] theorem Tryd.siz18 : Go.Abs.siz Tryd.prog 18 = some 1 := by kernel_rfl
@[go_sem] theorem Tryd.byt18 : Go.Abs.byt Tryd.prog 18 = some 8 := by kernel_rfl
@[go_sem] theorem Tryd.azero18 : Go.Abs.aZero Tryd.prog 18 = some (1, .agg [.v (.pointer none)]) := by kernel_rfl
@[go_sem] theorem Tryd.zer18 : Go.Abs.zer Tryd.prog 18 = some (.agg [.v (.pointer none)]) := by kernel_rfl
@[go_sem] theorem Tryd.plainSrc18 : Go.Abs.plainSrc Tryd.prog 18 = false := by kernel_rfl
@[go_sem] theorem Tryd.fld18_0 : Go.Abs.fld Tryd.prog 18 0 = some (0, 1, false) := by kernel_rfl
@[go_sem] theorem Tryd.und19 : Go.Abs.und Tryd.prog 19 = .struct #[⟨ "typ", 17, 0, false, "", "internal/runtime/maps", 0⟩] := by kernel_rfl
@[go_sem] theorem Tryd.siz19 : Go.Abs.siz Tryd.prog 19 = some 1 := by kernel_rfl
@[go_sem] theorem Tryd.byt19 : Go.Abs.byt Tryd.prog 19 = some 8 := by kernel_rfl
@[go_sem] theorem Tryd.azero19 : Go.Abs.aZero Tryd.prog 19 = some (1, .agg [.v (.pointer none)]) := by kernel_rfl
@[go_sem] theorem Tryd.zer19 : Go.Abs.zer Tryd.prog 19 = some (.agg [.v (.pointer none)]) := by kernel_rfl
@[go_sem] theorem Tryd.plainSrc19 : Go.Abs.plainSrc Tryd.prog 19 = false := by kernel_rfl
@[go_sem] theorem Tryd.fld19_0 : Go.Abs.fld Tryd.prog 19 0 = some (0, 1, false) := by kernel_rfl
@[go_sem] theorem Tryd.und21 : Go.Abs.und Tryd.prog 21 = .int .i32 := by kernel_rfl
@[go_sem] theorem Tryd.siz21 : Go.Abs.siz Tryd.prog 21 = some 1 := by kernel_rfl
@[go_sem] theorem Tryd.byt21 : Go.Abs.byt Tryd.prog 21 = some 4 := by kernel_rfl
@[go_sem] theorem Tryd.azero21 : Go.Abs.aZero Tryd.prog 21 = some (1, .v (.int .i32 0)) := by kernel_rfl
@[go_sem] theorem Tryd.zer21 : Go.Abs.zer Tryd.prog 21 = some (.v (.int .i32 0)) := by kernel_rfl
@[go_sem] theorem Tryd.plainSrc21 : Go.Abs.plainSrc Tryd.prog 21 = false := by kernel_rfl
@[go_sem] theorem Tryd.und22 : Go.Abs.und Tryd.prog 22 = .slice 3 := by kernel_rfl
@[go_sem] theorem Tryd.siz22 : Go.Abs.siz Tryd.prog 22 = some 1 := by kernel_rfl
@[go_sem] theorem Tryd.byt22 : Go.Abs.byt Tryd.prog 22 = some 24 := by kernel_rfl
@[go_sem] theorem Tryd.azero22 : Go.Abs.aZero Tryd.prog 22 = some (1, .v (.slice none 0 0)) := by kernel_rfl
@[go_sem] theorem Tryd.zer22 : Go.Abs.zer Tryd.prog 22 = some (.v (.slice none 0 0)) := by kernel_rfl
@[go_sem] theorem Tryd.plainSrc22 : Go.Abs.plainSrc Tryd.prog 22 = true := by kernel_rfl
@[go_sem] theorem Tryd.und23 : Go.Abs.und Tryd.prog 23 = .struct #[⟨ "Version", 3, 0, false, "", "", 0⟩, ⟨ "Weights", 22, 1, false, "", "", 8⟩] := by kernel_rfl
@[go_sem] theorem Tryd.siz23 : Go.Abs.siz Tryd.prog 23 = some 2 := by kernel_rfl
@[go_sem] theorem Tryd.byt23 : Go.Abs.byt Tryd.prog 23 = some 32 := by kernel_rfl
@[go_sem] theorem Tryd.azero23 : Go.Abs.aZero Tryd.prog 23 = some (2, .agg [.v (.int .i64 0), .v (.slice none 0 0)]) := by kernel_rfl
@[go_sem] theorem Tryd.zer23 : Go.Abs.zer Tryd.prog 23 = some (.agg [.v (.int .i64 0), .v (.slice none 0 0)]) := by kernel_rfl
@[go_sem] theorem Tryd.plainSrc23 : Go.Abs.plainSrc Tryd.prog 23 = false := by kernel_rfl
@[go_sem] theorem Tryd.fld23_0 : Go.Abs.fld Tryd.prog 23 0 = some (0, 1, false) := by kernel_rfl
@[go_sem] theorem Tryd.fld23_1 : Go.Abs.fld Tryd.prog 23 1 = some (1, 1, false) := by kernel_rfl
@[go_sem] theorem Tryd.und24 : Go.Abs.und Tryd.prog 24 = .struct #[⟨ "Version", 3, 0, false, "", "", 0⟩, ⟨ "Weights", 22, 1, false, "", "", 8⟩] := by kernel_rfl
@[go_sem] theorem Tryd.siz24 : Go.Abs.siz Tryd.prog 24 = some 2 := by kernel_rfl
@[go_sem] theorem Tryd.byt24 : Go.Abs.byt Tryd.prog 24 = some 32 := by kernel_rfl
@[go_sem] theorem Tryd.azero24 : Go.Abs.aZero Tryd.prog 24 = some (2, .agg [.v (.int .i64 0), .v (.slice none 0 0)]) := by kernel_rfl
@[go_sem] theorem Tryd.zer24 : Go.Abs.zer Tryd.prog 24 = some (.agg [.v (.int .i64 0), .v (.slice none 0 0)]) := by kernel_rfl
@[go_sem] theorem Tryd.plainSrc24 : Go.Abs.plainSrc Tryd.prog 24 = false := by kernel_rfl
@[go_sem] theorem Tryd.fld24_0 : Go.Abs.fld Tryd.prog 24 0 = some (0, 1, false) := by kernel_rfl
@[go_sem] theorem Tryd.fld24_1 : Go.Abs.fld Tryd.prog 24 1 = some (1, 1, false) := by kernel_rfl
@[go_sem] theorem Tryd.und25 : Go.Abs.und Tryd.prog 25 = .slice 28 := by kernel_rfl
@[go_sem] theorem Tryd.siz25 : Go.Abs.siz Tryd.prog 25 = some 1 := by kernel_rfl
@[go_sem] theorem Tryd.byt25 : Go.Abs.byt Tryd.prog 25 = some 24 := by kernel_rfl
@[go_sem] theorem Tryd.azero25 : Go.Abs.aZero Tryd.prog 25 = some (1, .v (.slice none 0 0)) := by kernel_rfl
@[go_sem] theorem Tryd.zer25 : Go.Abs.zer Tryd.prog 25 = some (.v (.slice none 0 0)) := by kernel_rfl
@[go_sem] theorem Tryd.plainSrc25 : Go.Abs.plainSrc Tryd.prog 25 = true := by kernel_rfl
@[go_sem] theorem Tryd.und26 : Go.Abs.und Tryd.prog 26 = .struct #[⟨ "Was", 24, 0, false, "", "", 0⟩, ⟨ "Will", 24, 2, false, "", "", 32⟩, ⟨ "Cursor", 9, 4, false, "", "", 64⟩, ⟨ "Done", 4, 5, false, "", "", 80⟩, ⟨ "Rows", 25, 6, false, "", "", 88⟩] := by kernel_rfl
@[go_sem] theorem Tryd.siz26 : Go.Abs.siz Tryd.prog 26 = some 7 := by kernel_rfl
@[go_sem] theorem Tryd.byt26 : Go.Abs.byt Tryd.prog 26 = some 112 := by kernel_rfl
@[go_sem] theorem Tryd.azero26 : Go.Abs.aZero Tryd.prog 26 = some (7, .agg [.v (.int .i64 0), .v (.slice none 0 0), .v (.int .i64 0), .v (.slice none 0 0), .v (.string ByteArray.empty), .v (.bool false), .v (.slice none 0 0)]) := by kernel_rfl
@[go_sem] theorem Tryd.zer26 : Go.Abs.zer Tryd.prog 26 = some (.agg [.v (.int .i64 0), .v (.slice none 0 0), .v (.int .i64 0), .v (.slice none 0 0), .v (.string ByteArray.empty), .v (.bool false), .v (.slice none 0 0)]) := by kernel_rfl
@[go_sem] theorem Tryd.plainSrc26 : Go.Abs.plainSrc Tryd.prog 26 = false := by kernel_rfl
@[go_sem] theorem Tryd.fld26_0 : Go.Abs.fld Tryd.prog 26 0 = some (0, 2, true) := by kernel_rfl
@[go_sem] theorem Tryd.fld26_1 : Go.Abs.fld Tryd.prog 26 1 = some (2, 2, true) := by kernel_rfl
@[go_sem] theorem Tryd.fld26_2 : Go.Abs.fld Tryd.prog 26 2 = some (4, 1, false) := by kernel_rfl
@[go_sem] theorem Tryd.fld26_3 : Go.Abs.fld Tryd.prog 26 3 = some (5, 1, false) := by kernel_rfl
@[go_sem] theorem Tryd.fld26_4 : Go.Abs.fld Tryd.prog 26 4 = some (6, 1, false) := by kernel_rfl
@[go_sem] theorem Tryd.und27 : Go.Abs.und Tryd.prog 27 = .struct #[⟨ "Was", 24, 0, false, "", "", 0⟩, ⟨ "Will", 24, 2, false, "", "", 32⟩, ⟨ "Cursor", 9, 4, false, "", "", 64⟩, ⟨ "Done", 4, 5, false, "", "", 80⟩, ⟨ "Rows", 25, 6, false, "", "", 88⟩] := by kernel_rfl
@[go_sem] theorem Tryd.siz27 : Go.Abs.siz Tryd.prog 27 = some 7 := by kernel_rfl
@[go_sem] theorem Tryd.byt27 : Go.Abs.byt Tryd.prog 27 = some 112 := by kernel_rfl
@[go_sem] theorem Tryd.azero27 : Go.Abs.aZero Tryd.prog 27 = some (7, .agg [.v (.int .i64 0), .v (.slice none 0 0), .v (.int .i64 0), .v (.slice none 0 0), .v (.string ByteArray.empty), .v (.bool false), .v (.slice none 0 0)]) := by kernel_rfl
@[go_sem] theorem Tryd.zer27 : Go.Abs.zer Tryd.prog 27 = some (.agg [.v (.int .i64 0), .v (.slice none 0 0), .v (.int .i64 0), .v (.slice none 0 0), .v (.string ByteArray.empty), .v (.bool false), .v (.slice none 0 0)]) := by kernel_rfl
@[go_sem] theorem Tryd.plainSrc27 : Go.Abs.plainSrc Tryd.prog 27 = false := by kernel_rfl
@[go_sem] theorem Tryd.fld27_0 : Go.Abs.fld Tryd.prog 27 0 = some (0, 2, true) := by kernel_rfl
@[go_sem] theorem Tryd.fld27_1 : Go.Abs.fld Tryd.prog 27 1 = some (2, 2, true) := by kernel_rfl
@[go_sem] theorem Tryd.fld27_2 : Go.Abs.fld Tryd.prog 27 2 = some (4, 1, false) := by kernel_rfl
@[go_sem] theorem Tryd.fld27_3 : Go.Abs.fld Tryd.prog 27 3 = some (5, 1, false) := by kernel_rfl
@[go_sem] theorem Tryd.fld27_4 : Go.Abs.fld Tryd.prog 27 4 = some (6, 1, false) := by kernel_rfl
@[go_sem] theorem Tryd.und28 : Go.Abs.und Tryd.prog 28 = .slice 49 := by kernel_rfl
@[go_sem] theorem Tryd.siz28 : Go.Abs.siz Tryd.prog 28 = some 1 := by kernel_rfl
@[go_sem] theorem Tryd.byt28 : Go.Abs.byt Tryd.prog 28 = some 24 := by kernel_rfl
@[go_sem] theorem Tryd.azero28 : Go.Abs.aZero Tryd.prog 28 = some (1, .v (.slice none 0 0)) := by kernel_rfl
@[go_sem] theorem Tryd.zer28 : Go.Abs.zer Tryd.prog 28 = some (.v (.slice none 0 0)) := by kernel_rfl
@[go_sem] theorem Tryd.plainSrc28 : Go.Abs.plainSrc Tryd.prog 28 = true := by kernel_rfl
@[go_sem] theorem Tryd.und30 : Go.Abs.und Tryd.prog 30 = .struct #[⟨ "Was", 24, 0, false, "", "", 0⟩, ⟨ "Will", 24, 2, false, "", "", 32⟩, ⟨ "Cursor", 9, 4, false, "", "", 64⟩, ⟨ "Done", 4, 5, false, "", "", 80⟩] := by kernel_rfl
@[go_sem] theorem Tryd.siz30 : Go.Abs.siz Tryd.prog 30 = some 6 := by kernel_rfl
@[go_sem] theorem Tryd.byt30 : Go.Abs.byt Tryd.prog 30 = some 88 := by kernel_rfl
@[go_sem] theorem Tryd.azero30 : Go.Abs.aZero Tryd.prog 30 = some (6, .agg [.v (.int .i64 0), .v (.slice none 0 0), .v (.int .i64 0), .v (.slice none 0 0), .v (.string ByteArray.empty), .v (.bool false)]) := by kernel_rfl
@[go_sem] theorem Tryd.zer30 : Go.Abs.zer Tryd.prog 30 = some (.agg [.v (.int .i64 0), .v (.slice none 0 0), .v (.int .i64 0), .v (.slice none 0 0), .v (.string ByteArray.empty), .v (.bool false)]) := by kernel_rfl
@[go_sem] theorem Tryd.plainSrc30 : Go.Abs.plainSrc Tryd.prog 30 = false := by kernel_rfl
@[go_sem] theorem Tryd.fld30_0 : Go.Abs.fld Tryd.prog 30 0 = some (0, 2, true) := by kernel_rfl
@[go_sem] theorem Tryd.fld30_1 : Go.Abs.fld Tryd.prog 30 1 = some (2, 2, true) := by kernel_rfl
@[go_sem] theorem Tryd.fld30_2 : Go.Abs.fld Tryd.prog 30 2 = some (4, 1, false) := by kernel_rfl
@[go_sem] theorem Tryd.fld30_3 : Go.Abs.fld Tryd.prog 30 3 = some (5, 1, false) := by kernel_rfl
@[go_sem] theorem Tryd.und31 : Go.Abs.und Tryd.prog 31 = .struct #[⟨ "Was", 24, 0, false, "", "", 0⟩, ⟨ "Will", 24, 2, false, "", "", 32⟩, ⟨ "Cursor", 9, 4, false, "", "", 64⟩, ⟨ "Done", 4, 5, false, "", "", 80⟩] := by kernel_rfl
@[go_sem] theorem Tryd.siz31 : Go.Abs.siz Tryd.prog 31 = some 6 := by kernel_rfl
@[go_sem] theorem Tryd.byt31 : Go.Abs.byt Tryd.prog 31 = some 88 := by kernel_rfl
@[go_sem] theorem Tryd.azero31 : Go.Abs.aZero Tryd.prog 31 = some (6, .agg [.v (.int .i64 0), .v (.slice none 0 0), .v (.int .i64 0), .v (.slice none 0 0), .v (.string ByteArray.empty), .v (.bool false)]) := by kernel_rfl
@[go_sem] theorem Tryd.zer31 : Go.Abs.zer Tryd.prog 31 = some (.agg [.v (.int .i64 0), .v (.slice none 0 0), .v (.int .i64 0), .v (.slice none 0 0), .v (.string ByteArray.empty), .v (.bool false)]) := by kernel_rfl
@[go_sem] theorem Tryd.plainSrc31 : Go.Abs.plainSrc Tryd.prog 31 = false := by kernel_rfl
@[go_sem] theorem Tryd.fld31_0 : Go.Abs.fld Tryd.prog 31 0 = some (0, 2, true) := by kernel_rfl
@[go_sem] theorem Tryd.fld31_1 : Go.Abs.fld Tryd.prog 31 1 = some (2, 2, true) := by kernel_rfl
@[go_sem] theorem Tryd.fld31_2 : Go.Abs.fld Tryd.prog 31 2 = some (4, 1, false) := by kernel_rfl
@[go_sem] theorem Tryd.fld31_3 : Go.Abs.fld Tryd.prog 31 3 = some (5, 1, false) := by kernel_rfl
@[go_sem] theorem Tryd.und33 : Go.Abs.und Tryd.prog 33 = .slice 41 := by kernel_rfl
@[go_sem] theorem Tryd.siz33 : Go.Abs.siz Tryd.prog 33 = some 1 := by kernel_rfl
@[go_sem] theorem Tryd.byt33 : Go.Abs.byt Tryd.prog 33 = some 24 := by kernel_rfl
@[go_sem] theorem Tryd.azero33 : Go.Abs.aZero Tryd.prog 33 = some (1, .v (.slice none 0 0)) := by kernel_rfl
@[go_sem] theorem Tryd.zer33 : Go.Abs.zer Tryd.prog 33 = some (.v (.slice none 0 0)) := by kernel_rfl
@[go_sem] theorem Tryd.plainSrc33 : Go.Abs.plainSrc Tryd.prog 33 = true := by kernel_rfl
@[go_sem] theorem Tryd.und36 : Go.Abs.und Tryd.prog 36 = .int .i64 := by kernel_rfl
@[go_sem] theorem Tryd.siz36 : Go.Abs.siz Tryd.prog 36 = some 1 := by kernel_rfl
@[go_sem] theorem Tryd.byt36 : Go.Abs.byt Tryd.prog 36 = some 8 := by kernel_rfl
@[go_sem] theorem Tryd.azero36 : Go.Abs.aZero Tryd.prog 36 = some (1, .v (.int .i64 0)) := by kernel_rfl
@[go_sem] theorem Tryd.zer36 : Go.Abs.zer Tryd.prog 36 = some (.v (.int .i64 0)) := by kernel_rfl
@[go_sem] theorem Tryd.plainSrc36 : Go.Abs.plainSrc Tryd.prog 36 = false := by kernel_rfl
@[go_sem] theorem Tryd.und39 : Go.Abs.und Tryd.prog 39 = .int .u64 := by kernel_rfl
@[go_sem] theorem Tryd.siz39 : Go.Abs.siz Tryd.prog 39 = some 1 := by kernel_rfl
@[go_sem] theorem Tryd.byt39 : Go.Abs.byt Tryd.prog 39 = some 8 := by kernel_rfl
@[go_sem] theorem Tryd.azero39 : Go.Abs.aZero Tryd.prog 39 = some (1, .v (.int .u64 0)) := by kernel_rfl
@[go_sem] theorem Tryd.zer39 : Go.Abs.zer Tryd.prog 39 = some (.v (.int .u64 0)) := by kernel_rfl
@[go_sem] theorem Tryd.plainSrc39 : Go.Abs.plainSrc Tryd.prog 39 = false := by kernel_rfl
@[go_sem] theorem Tryd.und41 : Go.Abs.und Tryd.prog 41 = .pointer 71 := by kernel_rfl
@[go_sem] theorem Tryd.siz41 : Go.Abs.siz Tryd.prog 41 = some 1 := by kernel_rfl
@[go_sem] theorem Tryd.byt41 : Go.Abs.byt Tryd.prog 41 = some 8 := by kernel_rfl
@[go_sem] theorem Tryd.azero41 : Go.Abs.aZero Tryd.prog 41 = some (1, .v (.pointer none)) := by kernel_rfl
@[go_sem] theorem Tryd.zer41 : Go.Abs.zer Tryd.prog 41 = some (.v (.pointer none)) := by kernel_rfl
@[go_sem] theorem Tryd.plainSrc41 : Go.Abs.plainSrc Tryd.prog 41 = false := by kernel_rfl
@[go_sem] theorem Tryd.und43 : Go.Abs.und Tryd.prog 43 = .struct #[⟨ "From", 9, 0, false, "", "", 0⟩, ⟨ "To", 9, 1, false, "", "", 16⟩] := by kernel_rfl
@[go_sem] theorem Tryd.siz43 : Go.Abs.siz Tryd.prog 43 = some 2 := by kernel_rfl
@[go_sem] theorem Tryd.byt43 : Go.Abs.byt Tryd.prog 43 = some 32 := by kernel_rfl
@[go_sem] theorem Tryd.azero43 : Go.Abs.aZero Tryd.prog 43 = some (2, .agg [.v (.string ByteArray.empty), .v (.string ByteArray.empty)]) := by kernel_rfl
@[go_sem] theorem Tryd.zer43 : Go.Abs.zer Tryd.prog 43 = some (.agg [.v (.string ByteArray.empty), .v (.string ByteArray.empty)]) := by kernel_rfl
@[go_sem] theorem Tryd.plainSrc43 : Go.Abs.plainSrc Tryd.prog 43 = false := by kernel_rfl
@[go_sem] theorem Tryd.fld43_0 : Go.Abs.fld Tryd.prog 43 0 = some (0, 1, false) := by kernel_rfl
@[go_sem] theorem Tryd.fld43_1 : Go.Abs.fld Tryd.prog 43 1 = some (1, 1, false) := by kernel_rfl
@[go_sem] theorem Tryd.und44 : Go.Abs.und Tryd.prog 44 = .struct #[⟨ "From", 9, 0, false, "", "", 0⟩, ⟨ "To", 9, 1, false, "", "", 16⟩] := by kernel_rfl
@[go_sem] theorem Tryd.siz44 : Go.Abs.siz Tryd.prog 44 = some 2 := by kernel_rfl
@[go_sem] theorem Tryd.byt44 : Go.Abs.byt Tryd.prog 44 = some 32 := by kernel_rfl
@[go_sem] theorem Tryd.azero44 : Go.Abs.aZero Tryd.prog 44 = some (2, .agg [.v (.string ByteArray.empty), .v (.string ByteArray.empty)]) := by kernel_rfl
@[go_sem] theorem Tryd.zer44 : Go.Abs.zer Tryd.prog 44 = some (.agg [.v (.string ByteArray.empty), .v (.string ByteArray.empty)]) := by kernel_rfl
@[go_sem] theorem Tryd.plainSrc44 : Go.Abs.plainSrc Tryd.prog 44 = false := by kernel_rfl
@[go_sem] theorem Tryd.fld44_0 : Go.Abs.fld Tryd.prog 44 0 = some (0, 1, false) := by kernel_rfl
@[go_sem] theorem Tryd.fld44_1 : Go.Abs.fld Tryd.prog 44 1 = some (1, 1, false) := by kernel_rfl
@[go_sem] theorem Tryd.und48 : Go.Abs.und Tryd.prog 48 = .struct #[⟨ "Key", 9, 0, false, "", "", 0⟩, ⟨ "Stamp", 3, 1, false, "", "", 16⟩, ⟨ "Val", 9, 2, false, "", "", 24⟩] := by kernel_rfl
@[go_sem] theorem Tryd.siz48 : Go.Abs.siz Tryd.prog 48 = some 3 := by kernel_rfl
@[go_sem] theorem Tryd.byt48 : Go.Abs.byt Tryd.prog 48 = some 40 := by kernel_rfl
@[go_sem] theorem Tryd.azero48 : Go.Abs.aZero Tryd.prog 48 = some (3, .agg [.v (.string ByteArray.empty), .v (.int .i64 0), .v (.string ByteArray.empty)]) := by kernel_rfl
@[go_sem] theorem Tryd.zer48 : Go.Abs.zer Tryd.prog 48 = some (.agg [.v (.string ByteArray.empty), .v (.int .i64 0), .v (.string ByteArray.empty)]) := by kernel_rfl
@[go_sem] theorem Tryd.plainSrc48 : Go.Abs.plainSrc Tryd.prog 48 = false := by kernel_rfl
@[go_sem] theorem Tryd.fld48_0 : Go.Abs.fld Tryd.prog 48 0 = some (0, 1, false) := by kernel_rfl
@[go_sem] theorem Tryd.fld48_1 : Go.Abs.fld Tryd.prog 48 1 = some (1, 1, false) := by kernel_rfl
@[go_sem] theorem Tryd.fld48_2 : Go.Abs.fld Tryd.prog 48 2 = some (2, 1, false) := by kernel_rfl
@[go_sem] theorem Tryd.und49 : Go.Abs.und Tryd.prog 49 = .struct #[⟨ "Key", 9, 0, false, "", "", 0⟩, ⟨ "Stamp", 3, 1, false, "", "", 16⟩, ⟨ "Val", 9, 2, false, "", "", 24⟩] := by kernel_rfl
@[go_sem] theorem Tryd.siz49 : Go.Abs.siz Tryd.prog 49 = some 3 := by kernel_rfl
@[go_sem] theorem Tryd.byt49 : Go.Abs.byt Tryd.prog 49 = some 40 := by kernel_rfl
@[go_sem] theorem Tryd.azero49 : Go.Abs.aZero Tryd.prog 49 = some (3, .agg [.v (.string ByteArray.empty), .v (.int .i64 0), .v (.string ByteArray.empty)]) := by kernel_rfl
@[go_sem] theorem Tryd.zer49 : Go.Abs.zer Tryd.prog 49 = some (.agg [.v (.string ByteArray.empty), .v (.int .i64 0), .v (.string ByteArray.empty)]) := by kernel_rfl
@[go_sem] theorem Tryd.plainSrc49 : Go.Abs.plainSrc Tryd.prog 49 = false := by kernel_rfl
@[go_sem] theorem Tryd.fld49_0 : Go.Abs.fld Tryd.prog 49 0 = some (0, 1, false) := by kernel_rfl
@[go_sem] theorem Tryd.fld49_1 : Go.Abs.fld Tryd.prog 49 1 = some (1, 1, false) := by kernel_rfl
@[go_sem] theorem Tryd.fld49_2 : Go.Abs.fld Tryd.prog 49 2 = some (2, 1, false) := by kernel_rfl
@[go_sem] theorem Tryd.und56 : Go.Abs.und Tryd.prog 56 = .slice 9 := by kernel_rfl
@[go_sem] theorem Tryd.siz56 : Go.Abs.siz Tryd.prog 56 = some 1 := by kernel_rfl
@[go_sem] theorem Tryd.byt56 : Go.Abs.byt Tryd.prog 56 = some 24 := by kernel_rfl
@[go_sem] theorem Tryd.azero56 : Go.Abs.aZero Tryd.prog 56 = some (1, .v (.slice none 0 0)) := by kernel_rfl
@[go_sem] theorem Tryd.zer56 : Go.Abs.zer Tryd.prog 56 = some (.v (.slice none 0 0)) := by kernel_rfl
@[go_sem] theorem Tryd.plainSrc56 : Go.Abs.plainSrc Tryd.prog 56 = true := by kernel_rfl
@[go_sem] theorem Tryd.und59 : Go.Abs.und Tryd.prog 59 = .slice 63 := by kernel_rfl
@[go_sem] theorem Tryd.siz59 : Go.Abs.siz Tryd.prog 59 = some 1 := by kernel_rfl
@[go_sem] theorem Tryd.byt59 : Go.Abs.byt Tryd.prog 59 = some 24 := by kernel_rfl
@[go_sem] theorem Tryd.azero59 : Go.Abs.aZero Tryd.prog 59 = some (1, .v (.slice none 0 0)) := by kernel_rfl
@[go_sem] theorem Tryd.zer59 : Go.Abs.zer Tryd.prog 59 = some (.v (.slice none 0 0)) := by kernel_rfl
@[go_sem] theorem Tryd.plainSrc59 : Go.Abs.plainSrc Tryd.prog 59 = true := by kernel_rfl
@[go_sem] theorem Tryd.und70 : Go.Abs.und Tryd.prog 70 = .struct #[⟨ "rows", 28, 0, false, "", "skylark/table", 0⟩] := by kernel_rfl
@[go_sem] theorem Tryd.siz70 : Go.Abs.siz Tryd.prog 70 = some 1 := by kernel_rfl
@[go_sem] theorem Tryd.byt70 : Go.Abs.byt Tryd.prog 70 = some 24 := by kernel_rfl
@[go_sem] theorem Tryd.azero70 : Go.Abs.aZero Tryd.prog 70 = some (1, .agg [.v (.slice none 0 0)]) := by kernel_rfl
@[go_sem] theorem Tryd.zer70 : Go.Abs.zer Tryd.prog 70 = some (.agg [.v (.slice none 0 0)]) := by kernel_rfl
@[go_sem] theorem Tryd.plainSrc70 : Go.Abs.plainSrc Tryd.prog 70 = false := by kernel_rfl
@[go_sem] theorem Tryd.fld70_0 : Go.Abs.fld Tryd.prog 70 0 = some (0, 1, false) := by kernel_rfl
@[go_sem] theorem Tryd.und71 : Go.Abs.und Tryd.prog 71 = .struct #[⟨ "rows", 28, 0, false, "", "skylark/table", 0⟩] := by kernel_rfl
@[go_sem] theorem Tryd.siz71 : Go.Abs.siz Tryd.prog 71 = some 1 := by kernel_rfl
@[go_sem] theorem Tryd.byt71 : Go.Abs.byt Tryd.prog 71 = some 24 := by kernel_rfl
@[go_sem] theorem Tryd.azero71 : Go.Abs.aZero Tryd.prog 71 = some (1, .agg [.v (.slice none 0 0)]) := by kernel_rfl
@[go_sem] theorem Tryd.zer71 : Go.Abs.zer Tryd.prog 71 = some (.agg [.v (.slice none 0 0)]) := by kernel_rfl
@[go_sem] theorem Tryd.plainSrc71 : Go.Abs.plainSrc Tryd.prog 71 = false := by kernel_rfl
@[go_sem] theorem Tryd.fld71_0 : Go.Abs.fld Tryd.prog 71 0 = some (0, 1, false) := by kernel_rfl
@[go_sem] theorem Tryd.und80 : Go.Abs.und Tryd.prog 80 = .struct #[⟨ "cursor", 9, 0, false, "", "skylark/layout", 0⟩, ⟨ "done", 4, 1, false, "", "skylark/layout", 16⟩] := by kernel_rfl
@[go_sem] theorem Tryd.siz80 : Go.Abs.siz Tryd.prog 80 = some 2 := by kernel_rfl
@[go_sem] theorem Tryd.byt80 : Go.Abs.byt Tryd.prog 80 = some 24 := by kernel_rfl
@[go_sem] theorem Tryd.azero80 : Go.Abs.aZero Tryd.prog 80 = some (2, .agg [.v (.string ByteArray.empty), .v (.bool false)]) := by kernel_rfl
@[go_sem] theorem Tryd.zer80 : Go.Abs.zer Tryd.prog 80 = some (.agg [.v (.string ByteArray.empty), .v (.bool false)]) := by kernel_rfl
@[go_sem] theorem Tryd.plainSrc80 : Go.Abs.plainSrc Tryd.prog 80 = false := by kernel_rfl
@[go_sem] theorem Tryd.fld80_0 : Go.Abs.fld Tryd.prog 80 0 = some (0, 1, false) := by kernel_rfl
@[go_sem] theorem Tryd.fld80_1 : Go.Abs.fld Tryd.prog 80 1 = some (1, 1, false) := by kernel_rfl
@[go_sem] theorem Tryd.und81 : Go.Abs.und Tryd.prog 81 = .struct #[⟨ "cursor", 9, 0, false, "", "skylark/layout", 0⟩, ⟨ "done", 4, 1, false, "", "skylark/layout", 16⟩] := by kernel_rfl
@[go_sem] theorem Tryd.siz81 : Go.Abs.siz Tryd.prog 81 = some 2 := by kernel_rfl
@[go_sem] theorem Tryd.byt81 : Go.Abs.byt Tryd.prog 81 = some 24 := by kernel_rfl
@[go_sem] theorem Tryd.azero81 : Go.Abs.aZero Tryd.prog 81 = some (2, .agg [.v (.string ByteArray.empty), .v (.bool false)]) := by kernel_rfl
@[go_sem] theorem Tryd.zer81 : Go.Abs.zer Tryd.prog 81 = some (.agg [.v (.string ByteArray.empty), .v (.bool false)]) := by kernel_rfl
@[go_sem] theorem Tryd.plainSrc81 : Go.Abs.plainSrc Tryd.prog 81 = false := by kernel_rfl
@[go_sem] theorem Tryd.fld81_0 : Go.Abs.fld Tryd.prog 81 0 = some (0, 1, false) := by kernel_rfl
@[go_sem] theorem Tryd.fld81_1 : Go.Abs.fld Tryd.prog 81 1 = some (1, 1, false) := by kernel_rfl
@[go_sem] theorem Tryd.und89 : Go.Abs.und Tryd.prog 89 = .slice 107 := by kernel_rfl
@[go_sem] theorem Tryd.siz89 : Go.Abs.siz Tryd.prog 89 = some 1 := by kernel_rfl
@[go_sem] theorem Tryd.byt89 : Go.Abs.byt Tryd.prog 89 = some 24 := by kernel_rfl
@[go_sem] theorem Tryd.azero89 : Go.Abs.aZero Tryd.prog 89 = some (1, .v (.slice none 0 0)) := by kernel_rfl
@[go_sem] theorem Tryd.zer89 : Go.Abs.zer Tryd.prog 89 = some (.v (.slice none 0 0)) := by kernel_rfl
@[go_sem] theorem Tryd.plainSrc89 : Go.Abs.plainSrc Tryd.prog 89 = true := by kernel_rfl
@[go_sem] theorem Tryd.und90 : Go.Abs.und Tryd.prog 90 = .slice 107 := by kernel_rfl
@[go_sem] theorem Tryd.siz90 : Go.Abs.siz Tryd.prog 90 = some 1 := by kernel_rfl
@[go_sem] theorem Tryd.byt90 : Go.Abs.byt Tryd.prog 90 = some 24 := by kernel_rfl
@[go_sem] theorem Tryd.azero90 : Go.Abs.aZero Tryd.prog 90 = some (1, .v (.slice none 0 0)) := by kernel_rfl
@[go_sem] theorem Tryd.zer90 : Go.Abs.zer Tryd.prog 90 = some (.v (.slice none 0 0)) := by kernel_rfl
@[go_sem] theorem Tryd.plainSrc90 : Go.Abs.plainSrc Tryd.prog 90 = true := by kernel_rfl
@[go_sem] theorem Tryd.und99 : Go.Abs.und Tryd.prog 99 = .int .u64 := by kernel_rfl
@[go_sem] theorem Tryd.siz99 : Go.Abs.siz Tryd.prog 99 = some 1 := by kernel_rfl
@[go_sem] theorem Tryd.byt99 : Go.Abs.byt Tryd.prog 99 = some 8 := by kernel_rfl
@[go_sem] theorem Tryd.azero99 : Go.Abs.aZero Tryd.prog 99 = some (1, .v (.int .u64 0)) := by kernel_rfl
@[go_sem] theorem Tryd.zer99 : Go.Abs.zer Tryd.prog 99 = some (.v (.int .u64 0)) := by kernel_rfl
@[go_sem] theorem Tryd.plainSrc99 : Go.Abs.plainSrc Tryd.prog 99 = false := by kernel_rfl
@[go_sem] theorem Tryd.und106 : Go.Abs.und Tryd.prog 106 = .struct #[⟨ "at", 39, 0, false, "", "skylark/ring", 0⟩, ⟨ "chain", 3, 1, false, "", "skylark/ring", 8⟩, ⟨ "i", 3, 2, false, "", "skylark/ring", 16⟩] := by kernel_rfl
@[go_sem] theorem Tryd.siz106 : Go.Abs.siz Tryd.prog 106 = some 3 := by kernel_rfl
@[go_sem] theorem Tryd.byt106 : Go.Abs.byt Tryd.prog 106 = some 24 := by kernel_rfl
@[go_sem] theorem Tryd.azero106 : Go.Abs.aZero Tryd.prog 106 = some (3, .agg [.v (.int .u64 0), .v (.int .i64 0), .v (.int .i64 0)]) := by kernel_rfl
@[go_sem] theorem Tryd.zer106 : Go.Abs.zer Tryd.prog 106 = some (.agg [.v (.int .u64 0), .v (.int .i64 0), .v (.int .i64 0)]) := by kernel_rfl
@[go_sem] theorem Tryd.plainSrc106 : Go.Abs.plainSrc Tryd.prog 106 = false := by kernel_rfl
@[go_sem] theorem Tryd.fld106_0 : Go.Abs.fld Tryd.prog 106 0 = some (0, 1, false) := by kernel_rfl
@[go_sem] theorem Tryd.fld106_1 : Go.Abs.fld Tryd.prog 106 1 = some (1, 1, false) := by kernel_rfl
@[go_sem] theorem Tryd.fld106_2 : Go.Abs.fld Tryd.prog 106 2 = some (2, 1, false) := by kernel_rfl
@[go_sem] theorem Tryd.und107 : Go.Abs.und Tryd.prog 107 = .struct #[⟨ "at", 39, 0, false, "", "skylark/ring", 0⟩, ⟨ "chain", 3, 1, false, "", "skylark/ring", 8⟩, ⟨ "i", 3, 2, false, "", "skylark/ring", 16⟩] := by kernel_rfl
@[go_sem] theorem Tryd.siz107 : Go.Abs.siz Tryd.prog 107 = some 3 := by kernel_rfl
@[go_sem] theorem Tryd.byt107 : Go.Abs.byt Tryd.prog 107 = some 24 := by kernel_rfl
@[go_sem] theorem Tryd.azero107 : Go.Abs.aZero Tryd.prog 107 = some (3, .agg [.v (.int .u64 0), .v (.int .i64 0), .v (.int .i64 0)]) := by kernel_rfl
@[go_sem] theorem Tryd.zer107 : Go.Abs.zer Tryd.prog 107 = some (.agg [.v (.int .u64 0), .v (.int .i64 0), .v (.int .i64 0)]) := by kernel_rfl
@[go_sem] theorem Tryd.plainSrc107 : Go.Abs.plainSrc Tryd.prog 107 = false := by kernel_rfl
@[go_sem] theorem Tryd.fld107_0 : Go.Abs.fld Tryd.prog 107 0 = some (0, 1, false) := by kernel_rfl
@[go_sem] theorem Tryd.fld107_1 : Go.Abs.fld Tryd.prog 107 1 = some (1, 1, false) := by kernel_rfl
@[go_sem] theorem Tryd.fld107_2 : Go.Abs.fld Tryd.prog 107 2 = some (2, 1, false) := by kernel_rfl
@[go_sem] theorem Tryd.und116 : Go.Abs.und Tryd.prog 116 = .slice 36 := by kernel_rfl
@[go_sem] theorem Tryd.siz116 : Go.Abs.siz Tryd.prog 116 = some 1 := by kernel_rfl
@[go_sem] theorem Tryd.byt116 : Go.Abs.byt Tryd.prog 116 = some 24 := by kernel_rfl
@[go_sem] theorem Tryd.azero116 : Go.Abs.aZero Tryd.prog 116 = some (1, .v (.slice none 0 0)) := by kernel_rfl
@[go_sem] theorem Tryd.zer116 : Go.Abs.zer Tryd.prog 116 = some (.v (.slice none 0 0)) := by kernel_rfl
@[go_sem] theorem Tryd.plainSrc116 : Go.Abs.plainSrc Tryd.prog 116 = true := by kernel_rfl
@[go_sem] theorem Tryd.und124 : Go.Abs.und Tryd.prog 124 = .array 24 5 := by kernel_rfl
@[go_sem] theorem Tryd.siz124 : Go.Abs.siz Tryd.prog 124 = some 24 := by kernel_rfl
@[go_sem] theorem Tryd.byt124 : Go.Abs.byt Tryd.prog 124 = some 24 := by kernel_rfl
@[go_sem] theorem Tryd.azero124 : Go.Abs.aZero Tryd.prog 124 = some (24, .agg [.v (.int .u8 0), .v (.int .u8 0), .v (.int .u8 0), .v (.int .u8 0), .v (.int .u8 0), .v (.int .u8 0), .v (.int .u8 0), .v (.int .u8 0), .v (.int .u8 0), .v (.int .u8 0), .v (.int .u8 0), .v (.int .u8 0), .v (.int .u8 0), .v (.int .u8 0), .v (.int .u8 0), .v (.int .u8 0), .v (.int .u8 0), .v (.int .u8 0), .v (.int .u8 0), .v (.int .u8 0), .v (.int .u8 0), .v (.int .u8 0), .v (.int .u8 0), .v (.int .u8 0)]) := by kernel_rfl
@[go_sem] theorem Tryd.zer124 : Go.Abs.zer Tryd.prog 124 = some (.agg [.v (.int .u8 0), .v (.int .u8 0), .v (.int .u8 0), .v (.int .u8 0), .v (.int .u8 0), .v (.int .u8 0), .v (.int .u8 0), .v (.int .u8 0), .v (.int .u8 0), .v (.int .u8 0), .v (.int .u8 0), .v (.int .u8 0), .v (.int .u8 0), .v (.int .u8 0), .v (.int .u8 0), .v (.int .u8 0), .v (.int .u8 0), .v (.int .u8 0), .v (.int .u8 0), .v (.int .u8 0), .v (.int .u8 0), .v (.int .u8 0), .v (.int .u8 0), .v (.int .u8 0)]) := by kernel_rfl
@[go_sem] theorem Tryd.plainSrc124 : Go.Abs.plainSrc Tryd.prog 124 = false := by kernel_rfl
@[go_sem] theorem Tryd.und127 : Go.Abs.und Tryd.prog 127 = .slice 5 := by kernel_rfl
@[go_sem] theorem Tryd.siz127 : Go.Abs.siz Tryd.prog 127 = some 1 := by kernel_rfl
@[go_sem] theorem Tryd.byt127 : Go.Abs.byt Tryd.prog 127 = some 24 := by kernel_rfl
@[go_sem] theorem Tryd.azero127 : Go.Abs.aZero Tryd.prog 127 = some (1, .v (.slice none 0 0)) := by kernel_rfl
@[go_sem] theorem Tryd.zer127 : Go.Abs.zer Tryd.prog 127 = some (.v (.slice none 0 0)) := by kernel_rfl
@[go_sem] theorem Tryd.plainSrc127 : Go.Abs.plainSrc Tryd.prog 127 = true := by kernel_rfl
@[go_sem] theorem Tryd.und131 : Go.Abs.und Tryd.prog 131 = .int .i64 := by kernel_rfl
@[go_sem] theorem Tryd.siz131 : Go.Abs.siz Tryd.prog 131 = some 1 := by kernel_rfl
@[go_sem] theorem Tryd.byt131 : Go.Abs.byt Tryd.prog 131 = some 8 := by kernel_rfl
@[go_sem] theorem Tryd.azero131 : Go.Abs.aZero Tryd.prog 131 = some (1, .v (.int .i64 0)) := by kernel_rfl
@[go_sem] theorem Tryd.zer131 : Go.Abs.zer Tryd.prog 131 = some (.v (.int .i64 0)) := by kernel_rfl
@[go_sem] theorem Tryd.plainSrc131 : Go.Abs.plainSrc Tryd.prog 131 = false := by kernel_rfl
@[go_sem] theorem Tryd.und138 : Go.Abs.und Tryd.prog 138 = .int .u32 := by kernel_rfl
@[go_sem] theorem Tryd.siz138 : Go.Abs.siz Tryd.prog 138 = some 1 := by kernel_rfl
@[go_sem] theorem Tryd.byt138 : Go.Abs.byt Tryd.prog 138 = some 4 := by kernel_rfl
@[go_sem] theorem Tryd.azero138 : Go.Abs.aZero Tryd.prog 138 = some (1, .v (.int .u32 0)) := by kernel_rfl
@[go_sem] theorem Tryd.zer138 : Go.Abs.zer Tryd.prog 138 = some (.v (.int .u32 0)) := by kernel_rfl
@[go_sem] theorem Tryd.plainSrc138 : Go.Abs.plainSrc Tryd.prog 138 = false := by kernel_rfl
@[go_sem] theorem Tryd.und141 : Go.Abs.und Tryd.prog 141 = .array 20 39 := by kernel_rfl
@[go_sem] theorem Tryd.siz141 : Go.Abs.siz Tryd.prog 141 = some 20 := by kernel_rfl
@[go_sem] theorem Tryd.byt141 : Go.Abs.byt Tryd.prog 141 = some 160 := by kernel_rfl
@[go_sem] theorem Tryd.azero141 : Go.Abs.aZero Tryd.prog 141 = some (20, .agg [.v (.int .u64 0), .v (.int .u64 0), .v (.int .u64 0), .v (.int .u64 0), .v (.int .u64 0), .v (.int .u64 0), .v (.int .u64 0), .v (.int .u64 0), .v (.int .u64 0), .v (.int .u64 0), .v (.int .u64 0), .v (.int .u64 0), .v (.int .u64 0), .v (.int .u64 0), .v (.int .u64 0), .v (.int .u64 0), .v (.int .u64 0), .v (.int .u64 0), .v (.int .u64 0), .v (.int .u64 0)]) := by kernel_rfl
@[go_sem] theorem Tryd.zer141 : Go.Abs.zer Tryd.prog 141 = some (.agg [.v (.int .u64 0), .v (.int .u64 0), .v (.int .u64 0), .v (.int .u64 0), .v (.int .u64 0), .v (.int .u64 0), .v (.int .u64 0), .v (.int .u64 0), .v (.int .u64 0), .v (.int .u64 0), .v (.int .u64 0), .v (.int .u64 0), .v (.int .u64 0), .v (.int .u64 0), .v (.int .u64 0), .v (.int .u64 0), .v (.int .u64 0), .v (.int .u64 0), .v (.int .u64 0), .v (.int .u64 0)]) := by kernel_rfl
@[go_sem] theorem Tryd.plainSrc141 : Go.Abs.plainSrc Tryd.prog 141 = false := by kernel_rfl
@[go_sem] theorem Tryd.und142 : Go.Abs.und Tryd.prog 142 = .array 65 5 := by kernel_rfl
@[go_sem] theorem Tryd.siz142 : Go.Abs.siz Tryd.prog 142 = some 65 := by kernel_rfl
@[go_sem] theorem Tryd.byt142 : Go.Abs.byt Tryd.prog 142 = some 65 := by kernel_rfl
@[go_sem] theorem Tryd.azero142 : Go.Abs.aZero Tryd.prog 142 = some (65, .agg [.v (.int .u8 0), .v (.int .u8 0), .v (.int .u8 0), .v (.int .u8 0), .v (.int .u8 0), .v (.int .u8 0), .v (.int .u8 0), .v (.int .u8 0), .v (.int .u8 0), .v (.int .u8 0), .v (.int .u8 0), .v (.int .u8 0), .v (.int .u8 0), .v (.int .u8 0), .v (.int .u8 0), .v (.int .u8 0), .v (.int .u8 0), .v (.int .u8 0), .v (.int .u8 0), .v (.int .u8 0), .v (.int .u8 0), .v (.int .u8 0), .v (.int .u8 0), .v (.int .u8 0), .v (.int .u8 0), .v (.int .u8 0), .v (.int .u8 0), .v (.int .u8 0), .v (.int .u8 0), .v (.int .u8 0), .v (.int .u8 0), .v (.int .u8 0), .v (.int .u8 0), .v (.int .u8 0), .v (.int .u8 0), .v (.int .u8 0), .v (.int .u8 0), .v (.int .u8 0), .v (.int .u8 0), .v (.int .u8 0), .v (.int .u8 0), .v (.int .u8 0), .v (.int .u8 0), .v (.int .u8 0), .v (.int .u8 0), .v (.int .u8 0), .v (.int .u8 0), .v (.int .u8 0), .v (.int .u8 0), .v (.int .u8 0), .v (.int .u8 0), .v (.int .u8 0), .v (.int .u8 0), .v (.int .u8 0), .v (.int .u8 0), .v (.int .u8 0), .v (.int .u8 0), .v (.int .u8 0), .v (.int .u8 0), .v (.int .u8 0), .v (.int .u8 0), .v (.int .u8 0), .v (.int .u8 0), .v (.int .u8 0), .v (.int .u8 0)]) := by kernel_rfl
@[go_sem] theorem Tryd.zer142 : Go.Abs.zer Tryd.prog 142 = some (.agg [.v (.int .u8 0), .v (.int .u8 0), .v (.int .u8 0), .v (.int .u8 0), .v (.int .u8 0), .v (.int .u8 0), .v (.int .u8 0), .v (.int .u8 0), .v (.int .u8 0), .v (.int .u8 0), .v (.int .u8 0), .v (.int .u8 0), .v (.int .u8 0), .v (.int .u8 0), .v (.int .u8 0), .v (.int .u8 0), .v (.int .u8 0), .v (.int .u8 0), .v (.int .u8 0), .v (.int .u8 0), .v (.int .u8 0), .v (.int .u8 0), .v (.int .u8 0), .v (.int .u8 0), .v (.int .u8 0), .v (.int .u8 0), .v (.int .u8 0), .v (.int .u8 0), .v (.int .u8 0), .v (.int .u8 0), .v (.int .u8 0), .v (.int .u8 0), .v (.int .u8 0), .v (.int .u8 0), .v (.int .u8 0), .v (.int .u8 0), .v (.int .u8 0), .v (.int .u8 0), .v (.int .u8 0), .v (.int .u8 0), .v (.int .u8 0), .v (.int .u8 0), .v (.int .u8 0), .v (.int .u8 0), .v (.int .u8 0), .v (.int .u8 0), .v (.int .u8 0), .v (.int .u8 0), .v (.int .u8 0), .v (.int .u8 0), .v (.int .u8 0), .v (.int .u8 0), .v (.int .u8 0), .v (.int .u8 0), .v (.int .u8 0), .v (.int .u8 0), .v (.int .u8 0), .v (.int .u8 0), .v (.int .u8 0), .v (.int .u8 0), .v (.int .u8 0), .v (.int .u8 0), .v (.int .u8 0), .v (.int .u8 0), .v (.int .u8 0)]) := by kernel_rfl
@[go_sem] theorem Tryd.plainSrc142 : Go.Abs.plainSrc Tryd.prog 142 = false := by kernel_rfl
@[go_sem] theorem Tryd.und143 : Go.Abs.und Tryd.prog 143 = .int .u64 := by kernel_rfl
@[go_sem] theorem Tryd.siz143 : Go.Abs.siz Tryd.prog 143 = some 1 := by kernel_rfl
@[go_sem] theorem Tryd.byt143 : Go.Abs.byt Tryd.prog 143 = some 8 := by kernel_rfl
@[go_sem] theorem Tryd.azero143 : Go.Abs.aZero Tryd.prog 143 = some (1, .v (.int .u64 0)) := by kernel_rfl
@[go_sem] theorem Tryd.zer143 : Go.Abs.zer Tryd.prog 143 = some (.v (.int .u64 0)) := by kernel_rfl
@[go_sem] theorem Tryd.plainSrc143 : Go.Abs.plainSrc Tryd.prog 143 = false := by kernel_rfl
@[go_sem] theorem Tryd.und147 : Go.Abs.und Tryd.prog 147 = .pointer 3 := by kernel_rfl
@[go_sem] theorem Tryd.siz147 : Go.Abs.siz Tryd.prog 147 = some 1 := by kernel_rfl
@[go_sem] theorem Tryd.byt147 : Go.Abs.byt Tryd.prog 147 = some 8 := by kernel_rfl
@[go_sem] theorem Tryd.azero147 : Go.Abs.aZero Tryd.prog 147 = some (1, .v (.pointer none)) := by kernel_rfl
@[go_sem] theorem Tryd.zer147 : Go.Abs.zer Tryd.prog 147 = some (.v (.pointer none)) := by kernel_rfl
@[go_sem] theorem Tryd.plainSrc147 : Go.Abs.plainSrc Tryd.prog 147 = false := by kernel_rfl
@[go_sem] theorem Tryd.und149 : Go.Abs.und Tryd.prog 149 = .pointer 143 := by kernel_rfl
@[go_sem] theorem Tryd.siz149 : Go.Abs.siz Tryd.prog 149 = some 1 := by kernel_rfl
@[go_sem] theorem Tryd.byt149 : Go.Abs.byt Tryd.prog 149 = some 8 := by kernel_rfl
@[go_sem] theorem Tryd.azero149 : Go.Abs.aZero Tryd.prog 149 = some (1, .v (.pointer none)) := by kernel_rfl
@[go_sem] theorem Tryd.zer149 : Go.Abs.zer Tryd.prog 149 = some (.v (.pointer none)) := by kernel_rfl
@[go_sem] theorem Tryd.plainSrc149 : Go.Abs.plainSrc Tryd.prog 149 = false := by kernel_rfl
@[go_sem] theorem Tryd.und151 : Go.Abs.und Tryd.prog 151 = .array 32 5 := by kernel_rfl
@[go_sem] theorem Tryd.siz151 : Go.Abs.siz Tryd.prog 151 = some 32 := by kernel_rfl
@[go_sem] theorem Tryd.byt151 : Go.Abs.byt Tryd.prog 151 = some 32 := by kernel_rfl
@[go_sem] theorem Tryd.azero151 : Go.Abs.aZero Tryd.prog 151 = some (32, .agg [.v (.int .u8 0), .v (.int .u8 0), .v (.int .u8 0), .v (.int .u8 0), .v (.int .u8 0), .v (.int .u8 0), .v (.int .u8 0), .v (.int .u8 0), .v (.int .u8 0), .v (.int .u8 0), .v (.int .u8 0), .v (.int .u8 0), .v (.int .u8 0), .v (.int .u8 0), .v (.int .u8 0), .v (.int .u8 0), .v (.int .u8 0), .v (.int .u8 0), .v (.int .u8 0), .v (.int .u8 0), .v (.int .u8 0), .v (.int .u8 0), .v (.int .u8 0), .v (.int .u8 0), .v (.int .u8 0), .v (.int .u8 0), .v (.int .u8 0), .v (.int .u8 0), .v (.int .u8 0), .v (.int .u8 0), .v (.int .u8 0), .v (.int .u8 0)]) := by kernel_rfl
@[go_sem] theorem Tryd.zer151 : Go.Abs.zer Tryd.prog 151 = some (.agg [.v (.int .u8 0), .v (.int .u8 0), .v (.int .u8 0), .v (.int .u8 0), .v (.int .u8 0), .v (.int .u8 0), .v (.int .u8 0), .v (.int .u8 0), .v (.int .u8 0), .v (.int .u8 0), .v (.int .u8 0), .v (.int .u8 0), .v (.int .u8 0), .v (.int .u8 0), .v (.int .u8 0), .v (.int .u8 0), .v (.int .u8 0), .v (.int .u8 0), .v (.int .u8 0), .v (.int .u8 0), .v (.int .u8 0), .v (.int .u8 0), .v (.int .u8 0), .v (.int .u8 0), .v (.int .u8 0), .v (.int .u8 0), .v (.int .u8 0), .v (.int .u8 0), .v (.int .u8 0), .v (.int .u8 0), .v (.int .u8 0), .v (.int .u8 0)]) := by kernel_rfl
@[go_sem] theorem Tryd.plainSrc151 : Go.Abs.plainSrc Tryd.prog 151 = false := by kernel_rfl
@[go_sem] theorem Tryd.und152 : Go.Abs.und Tryd.prog 152 = .array 64 5 := by kernel_rfl
@[go_sem] theorem Tryd.siz152 : Go.Abs.siz Tryd.prog 152 = some 64 := by kernel_rfl
@[go_sem] theorem Tryd.byt152 : Go.Abs.byt Tryd.prog 152 = some 64 := by kernel_rfl
@[go_sem] theorem Tryd.azero152 : Go.Abs.aZero Tryd.prog 152 = some (64, .agg [.v (.int .u8 0), .v (.int .u8 0), .v (.int .u8 0), .v (.int .u8 0), .v (.int .u8 0), .v (.int .u8 0), .v (.int .u8 0), .v (.int .u8 0), .v (.int .u8 0), .v (.int .u8 0), .v (.int .u8 0), .v (.int .u8 0), .v (.int .u8 0), .v (.int .u8 0), .v (.int .u8 0), .v (.int .u8 0), .v (.int .u8 0), .v (.int .u8 0), .v (.int .u8 0), .v (.int .u8 0), .v (.int .u8 0), .v (.int .u8 0), .v (.int .u8 0), .v (.int .u8 0), .v (.int .u8 0), .v (.int .u8 0), .v (.int .u8 0), .v (.int .u8 0), .v (.int .u8 0), .v (.int .u8 0), .v (.int .u8 0), .v (.int .u8 0), .v (.int .u8 0), .v (.int .u8 0), .v (.int .u8 0), .v (.int .u8 0), .v (.int .u8 0), .v (.int .u8 0), .v (.int .u8 0), .v (.int .u8 0), .v (.int .u8 0), .v (.int .u8 0), .v (.int .u8 0), .v (.int .u8 0), .v (.int .u8 0), .v (.int .u8 0), .v (.int .u8 0), .v (.int .u8 0), .v (.int .u8 0), .v (.int .u8 0), .v (.int .u8 0), .v (.int .u8 0), .v (.int .u8 0), .v (.int .u8 0), .v (.int .u8 0), .v (.int .u8 0), .v (.int .u8 0), .v (.int .u8 0), .v (.int .u8 0), .v (.int .u8 0), .v (.int .u8 0), .v (.int .u8 0), .v (.int .u8 0), .v (.int .u8 0)]) := by kernel_rfl
@[go_sem] theorem Tryd.zer152 : Go.Abs.zer Tryd.prog 152 = some (.agg [.v (.int .u8 0), .v (.int .u8 0), .v (.int .u8 0), .v (.int .u8 0), .v (.int .u8 0), .v (.int .u8 0), .v (.int .u8 0), .v (.int .u8 0), .v (.int .u8 0), .v (.int .u8 0), .v (.int .u8 0), .v (.int .u8 0), .v (.int .u8 0), .v (.int .u8 0), .v (.int .u8 0), .v (.int .u8 0), .v (.int .u8 0), .v (.int .u8 0), .v (.int .u8 0), .v (.int .u8 0), .v (.int .u8 0), .v (.int .u8 0), .v (.int .u8 0), .v (.int .u8 0), .v (.int .u8 0), .v (.int .u8 0), .v (.int .u8 0), .v (.int .u8 0), .v (.int .u8 0), .v (.int .u8 0), .v (.int .u8 0), .v (.int .u8 0), .v (.int .u8 0), .v (.int .u8 0), .v (.int .u8 0), .v (.int .u8 0), .v (.int .u8 0), .v (.int .u8 0), .v (.int .u8 0), .v (.int .u8 0), .v (.int .u8 0), .v (.int .u8 0), .v (.int .u8 0), .v (.int .u8 0), .v (.int .u8 0), .v (.int .u8 0), .v (.int .u8 0), .v (.int .u8 0), .v (.int .u8 0), .v (.int .u8 0), .v (.int .u8 0), .v (.int .u8 0), .v (.int .u8 0), .v (.int .u8 0), .v (.int .u8 0), .v (.int .u8 0), .v (.int .u8 0), .v (.int .u8 0), .v (.int .u8 0), .v (.int .u8 0), .v (.int .u8 0), .v (.int .u8 0), .v (.int .u8 0), .v (.int .u8 0)]) := by kernel_rfl
@[go_sem] theorem Tryd.plainSrc152 : Go.Abs.plainSrc Tryd.prog 152 = false := by kernel_rfl
@[go_sem] theorem Tryd.und154 : Go.Abs.und Tryd.prog 154 = .struct #[⟨ "_interface", 17, 0, false, "", "runtime", 0⟩, ⟨ "concrete", 17, 1, false, "", "runtime", 8⟩, ⟨ "asserted", 17, 2, false, "", "runtime", 16⟩, ⟨ "missingMethod", 9, 3, false, "", "runtime", 24⟩] := by kernel_rfl
@[go_sem] theorem Tryd.siz154 : Go.Abs.siz Tryd.prog 154 = some 4 := by kernel_rfl
@[go_sem] theorem Tryd.byt154 : Go.Abs.byt Tryd.prog 154 = some 40 := by kernel_rfl
@[go_sem] theorem Tryd.azero154 : Go.Abs.aZero Tryd.prog 154 = some (4, .agg [.v (.pointer none), .v (.pointer none), .v (.pointer none), .v (.string ByteArray.empty)]) := by kernel_rfl
@[go_sem] theorem Tryd.zer154 : Go.Abs.zer Tryd.prog 154 = some (.agg [.v (.pointer none), .v (.pointer none), .v (.pointer none), .v (.string ByteArray.empty)]) := by kernel_rfl
@[go_sem] theorem Tryd.plainSrc154 : Go.Abs.plainSrc Tryd.prog 154 = false := by kernel_rfl
@[go_sem] theorem Tryd.fld154_0 : Go.Abs.fld Tryd.prog 154 0 = some (0, 1, false) := by kernel_rfl
@[go_sem] theorem Tryd.fld154_1 : Go.Abs.fld Tryd.prog 154 1 = some (1, 1, false) := by kernel_rfl
@[go_sem] theorem Tryd.fld154_2 : Go.Abs.fld Tryd.prog 154 2 = some (2, 1, false) := by kernel_rfl
@[go_sem] theorem Tryd.fld154_3 : Go.Abs.fld Tryd.prog 154 3 = some (3, 1, false) := by kernel_rfl
@[go_sem] theorem Tryd.und155 : Go.Abs.und Tryd.prog 155 = .struct #[⟨ "_interface", 17, 0, false, "", "runtime", 0⟩, ⟨ "concrete", 17, 1, false, "", "runtime", 8⟩, ⟨ "asserted", 17, 2, false, "", "runtime", 16⟩, ⟨ "missingMethod", 9, 3, false, "", "runtime", 24⟩] := by kernel_rfl
@[go_sem] theorem Tryd.siz155 : Go.Abs.siz Tryd.prog 155 = some 4 := by kernel_rfl
@[go_sem] theorem Tryd.byt155 : Go.Abs.byt Tryd.prog 155 = some 40 := by kernel_rfl
@[go_sem] theorem Tryd.azero155 : Go.Abs.aZero Tryd.prog 155 = some (4, .agg [.v (.pointer none), .v (.pointer none), .v (.pointer none), .v (.string ByteArray.empty)]) := by kernel_rfl
@[go_sem] theorem Tryd.zer155 : Go.Abs.zer Tryd.prog 155 = some (.agg [.v (.pointer none), .v (.pointer none), .v (.pointer none), .v (.string ByteArray.empty)]) := by kernel_rfl
@[go_sem] theorem Tryd.plainSrc155 : Go.Abs.plainSrc Tryd.prog 155 = false := by kernel_rfl
@[go_sem] theorem Tryd.fld155_0 : Go.Abs.fld Tryd.prog 155 0 = some (0, 1, false) := by kernel_rfl
@[go_sem] theorem Tryd.fld155_1 : Go.Abs.fld Tryd.prog 155 1 = some (1, 1, false) := by kernel_rfl
@[go_sem] theorem Tryd.fld155_2 : Go.Abs.fld Tryd.prog 155 2 = some (2, 1, false) := by kernel_rfl
@[go_sem] theorem Tryd.fld155_3 : Go.Abs.fld Tryd.prog 155 3 = some (3, 1, false) := by kernel_rfl
@[go_sem] theorem Tryd.und156 : Go.Abs.und Tryd.prog 156 = .array 0 16 := by kernel_rfl
@[go_sem] theorem Tryd.siz156 : Go.Abs.siz Tryd.prog 156 = some 0 := by kernel_rfl
@[go_sem] theorem Tryd.byt156 : Go.Abs.byt Tryd.prog 156 = some 0 := by kernel_rfl
@[go_sem] theorem Tryd.azero156 : Go.Abs.aZero Tryd.prog 156 = some (0, .agg []) := by kernel_rfl
@[go_sem] theorem Tryd.zer156 : Go.Abs.zer Tryd.prog 156 = some (.agg []) := by kernel_rfl
@[go_sem] theorem Tryd.plainSrc156 : Go.Abs.plainSrc Tryd.prog 156 = false := by kernel_rfl
@[go_sem] theorem Tryd.und157 : Go.Abs.und Tryd.prog 157 = .struct #[⟨ "_", 156, 0, false, "", "runtime", 0⟩] := by kernel_rfl
@[go_sem] theorem Tryd.siz157 : Go.Abs.siz Tryd.prog 157 = some 0 := by kernel_rfl
@[go_sem] theorem Tryd.byt157 : Go.Abs.byt Tryd.prog 157 = some 0 := by kernel_rfl
@[go_sem] theorem Tryd.azero157 : Go.Abs.aZero Tryd.prog 157 = some (0, .agg []) := by kernel_rfl
@[go_sem] theorem Tryd.zer157 : Go.Abs.zer Tryd.prog 157 = some (.agg []) := by kernel_rfl
@[go_sem] theorem Tryd.plainSrc157 : Go.Abs.plainSrc Tryd.prog 157 = false := by kernel_rfl
@[go_sem] theorem Tryd.fld157_0 : Go.Abs.fld Tryd.prog 157 0 = some (0, 0, true) := by kernel_rfl
@[go_sem] theorem Tryd.und158 : Go.Abs.und Tryd.prog 158 = .struct #[⟨ "_", 156, 0, false, "", "runtime", 0⟩] := by kernel_rfl
@[go_sem] theorem Tryd.siz158 : Go.Abs.siz Tryd.prog 158 = some 0 := by kernel_rfl
@[go_sem] theorem Tryd.byt158 : Go.Abs.byt Tryd.prog 158 = some 0 := by kernel_rfl
@[go_sem] theorem Tryd.azero158 : Go.Abs.aZero Tryd.prog 158 = some (0, .agg []) := by kernel_rfl
@[go_sem] theorem Tryd.zer158 : Go.Abs.zer Tryd.prog 158 = some (.agg []) := by kernel_rfl
@[go_sem] theorem Tryd.plainSrc158 : Go.Abs.plainSrc Tryd.prog 158 = false := by kernel_rfl
@[go_sem] theorem Tryd.fld158_0 : Go.Abs.fld Tryd.prog 158 0 = some (0, 0, true) := by kernel_rfl
@[go_sem] theorem Tryd.und159 : Go.Abs.und Tryd.prog 159 = .int .u8 := by kernel_rfl
@[go_sem] theorem Tryd.siz159 : Go.Abs.siz Tryd.prog 159 = some 1 := by kernel_rfl
@[go_sem] theorem Tryd.byt159 : Go.Abs.byt Tryd.prog 159 = some 1 := by kernel_rfl
@[go_sem] theorem Tryd.azero159 : Go.Abs.aZero Tryd.prog 159 = some (1, .v (.int .u8 0)) := by kernel_rfl
@[go_sem] theorem Tryd.zer159 : Go.Abs.zer Tryd.prog 159 = some (.v (.int .u8 0)) := by kernel_rfl
@[go_sem] theorem Tryd.plainSrc159 : Go.Abs.plainSrc Tryd.prog 159 = false := by kernel_rfl
@[go_sem] theorem Tryd.und160 : Go.Abs.und Tryd.prog 160 = .int .u8 := by kernel_rfl
@[go_sem] theorem Tryd.siz160 : Go.Abs.siz Tryd.prog 160 = some 1 := by kernel_rfl
@[go_sem] theorem Tryd.byt160 : Go.Abs.byt Tryd.prog 160 = some 1 := by kernel_rfl
@[go_sem] theorem Tryd.azero160 : Go.Abs.aZero Tryd.prog 160 = some (1, .v (.int .u8 0)) := by kernel_rfl
@[go_sem] theorem Tryd.zer160 : Go.Abs.zer Tryd.prog 160 = some (.v (.int .u8 0)) := by kernel_rfl
@[go_sem] theorem Tryd.plainSrc160 : Go.Abs.plainSrc Tryd.prog 160 = false := by kernel_rfl
@[go_sem] theorem Tryd.und162 : Go.Abs.und Tryd.prog 162 = .pointer 5 := by kernel_rfl
@[go_sem] theorem Tryd.siz162 : Go.Abs.siz Tryd.prog 162 = some 1 := by kernel_rfl
@[go_sem] theorem Tryd.byt162 : Go.Abs.byt Tryd.prog 162 = some 8 := by kernel_rfl
@[go_sem] theorem Tryd.azero162 : Go.Abs.aZero Tryd.prog 162 = some (1, .v (.pointer none)) := by kernel_rfl
@[go_sem] theorem Tryd.zer162 : Go.Abs.zer Tryd.prog 162 = some (.v (.pointer none)) := by kernel_rfl
@[go_sem] theorem Tryd.plainSrc162 : Go.Abs.plainSrc Tryd.prog 162 = false := by kernel_rfl
@[go_sem] theorem Tryd.und163 : Go.Abs.und Tryd.prog 163 = .int .i32 := by kernel_rfl
@[go_sem] theorem Tryd.siz163 : Go.Abs.siz Tryd.prog 163 = some 1 := by kernel_rfl
@[go_sem] theorem Tryd.byt163 : Go.Abs.byt Tryd.prog 163 = some 4 := by kernel_rfl
@[go_sem] theorem Tryd.azero163 : Go.Abs.aZero Tryd.prog 163 = some (1, .v (.int .i32 0)) := by kernel_rfl
@[go_sem] theorem Tryd.zer163 : Go.Abs.zer Tryd.prog 163 = some (.v (.int .i32 0)) := by kernel_rfl
@[go_sem] theorem Tryd.plainSrc163 : Go.Abs.plainSrc Tryd.prog 163 = false := by kernel_rfl
@[go_sem] theorem Tryd.und164 : Go.Abs.und Tryd.prog 164 = .int .i32 := by kernel_rfl
@[go_sem] theorem Tryd.siz164 : Go.Abs.siz Tryd.prog 164 = some 1 := by kernel_rfl
@[go_sem] theorem Tryd.byt164 : Go.Abs.byt Tryd.prog 164 = some 4 := by kernel_rfl
@[go_sem] theorem Tryd.azero164 : Go.Abs.aZero Tryd.prog 164 = some (1, .v (.int .i32 0)) := by kernel_rfl
@[go_sem] theorem Tryd.zer164 : Go.Abs.zer Tryd.prog 164 = some (.v (.int .i32 0)) := by kernel_rfl
@[go_sem] theorem Tryd.plainSrc164 : Go.Abs.plainSrc Tryd.prog 164 = false := by kernel_rfl
@[go_sem] theorem Tryd.und165 : Go.Abs.und Tryd.prog 165 = .struct #[⟨ "Size_", 12, 0, false, "", "", 0⟩, ⟨ "PtrBytes", 12, 1, false, "", "", 8⟩, ⟨ "Hash", 138, 2, false, "", "", 16⟩, ⟨ "TFlag", 159, 3, false, "", "", 20⟩, ⟨ "Align_", 5, 4, false, "", "", 21⟩, ⟨ "FieldAlign_", 5, 5, false, "", "", 22⟩, ⟨ "Kind_", 160, 6, false, "", "", 23⟩, ⟨ "Equal", 161, 7, false, "", "", 24⟩, ⟨ "GCData", 162, 8, false, "", "", 32⟩, ⟨ "Str", 163, 9, false, "", "", 40⟩, ⟨ "PtrToThis", 164, 10, false, "", "", 44⟩] := by kernel_rfl
@[go_sem] theorem Tryd.siz165 : Go.Abs.siz Tryd.prog 165 = some 11 := by kernel_rfl
@[go_sem] theorem Tryd.byt165 : Go.Abs.byt Tryd.prog 165 = some 48 := by kernel_rfl
@[go_sem] theorem Tryd.azero165 : Go.Abs.aZero Tryd.prog 165 = some (11, .agg [.v (.int .u64 0), .v (.int .u64 0), .v (.int .u32 0), .v (.int .u8 0), .v (.int .u8 0), .v (.int .u8 0), .v (.int .u8 0), .v (.nilFunc), .v (.pointer none), .v (.int .i32 0), .v (.int .i32 0)]) := by kernel_rfl
@[go_sem] theorem Tryd.zer165 : Go.Abs.zer Tryd.prog 165 = some (.agg [.v (.int .u64 0), .v (.int .u64 0), .v (.int .u32 0), .v (.int .u8 0), .v (.int .u8 0), .v (.int .u8 0), .v (.int .u8 0), .v (.nilFunc), .v (.pointer none), .v (.int .i32 0), .v (.int .i32 0)]) := by kernel_rfl
@[go_sem] theorem Tryd.plainSrc165 : Go.Abs.plainSrc Tryd.prog 165 = false := by kernel_rfl
@[go_sem] theorem Tryd.fld165_0 : Go.Abs.fld Tryd.prog 165 0 = some (0, 1, false) := by kernel_rfl
@[go_sem] theorem Tryd.fld165_1 : Go.Abs.fld Tryd.prog 165 1 = some (1, 1, false) := by kernel_rfl
@[go_sem] theorem Tryd.fld165_2 : Go.Abs.fld Tryd.prog 165 2 = some (2, 1, false) := by kernel_rfl
@[go_sem] theorem Tryd.fld165_3 : Go.Abs.fld Tryd.prog 165 3 = some (3, 1, false) := by kernel_rfl
@[go_sem] theorem Tryd.fld165_4 : Go.Abs.fld Tryd.prog 165 4 = some (4, 1, false) := by kernel_rfl
@[go_sem] theorem Tryd.fld165_5 : Go.Abs.fld Tryd.prog 165 5 = some (5, 1, false) := by kernel_rfl
@[go_sem] theorem Tryd.fld165_6 : Go.Abs.fld Tryd.prog 165 6 = some (6, 1, false) := by kernel_rfl
@[go_sem] theorem Tryd.fld165_7 : Go.Abs.fld Tryd.prog 165 7 = some (7, 1, false) := by kernel_rfl
@[go_sem] theorem Tryd.fld165_8 : Go.Abs.fld Tryd.prog 165 8 = some (8, 1, false) := by kernel_rfl
@[go_sem] theorem Tryd.fld165_9 : Go.Abs.fld Tryd.prog 165 9 = some (9, 1, false) := by kernel_rfl
@[go_sem] theorem Tryd.fld165_10 : Go.Abs.fld Tryd.prog 165 10 = some (10, 1, false) := by kernel_rfl
@[go_sem] theorem Tryd.und166 : Go.Abs.und Tryd.prog 166 = .struct #[⟨ "Size_", 12, 0, false, "", "", 0⟩, ⟨ "PtrBytes", 12, 1, false, "", "", 8⟩, ⟨ "Hash", 138, 2, false, "", "", 16⟩, ⟨ "TFlag", 159, 3, false, "", "", 20⟩, ⟨ "Align_", 5, 4, false, "", "", 21⟩, ⟨ "FieldAlign_", 5, 5, false, "", "", 22⟩, ⟨ "Kind_", 160, 6, false, "", "", 23⟩, ⟨ "Equal", 161, 7, false, "", "", 24⟩, ⟨ "GCData", 162, 8, false, "", "", 32⟩, ⟨ "Str", 163, 9, false, "", "", 40⟩, ⟨ "PtrToThis", 164, 10, false, "", "", 44⟩] := by kernel_rfl
@[go_sem] theorem Tryd.siz166 : Go.Abs.siz Tryd.prog 166 = some 11 := by kernel_rfl
@[go_sem] theorem Tryd.byt166 : Go.Abs.byt Tryd.prog 166 = some 48 := by kernel_rfl
@[go_sem] theorem Tryd.azero166 : Go.Abs.aZero Tryd.prog 166 = some (11, .agg [.v (.int .u64 0), .v (.int .u64 0), .v (.int .u32 0), .v (.int .u8 0), .v (.int .u8 0), .v (.int .u8 0), .v (.int .u8 0), .v (.nilFunc), .v (.pointer none), .v (.int .i32 0), .v (.int .i32 0)]) := by kernel_rfl
@[go_sem] theorem Tryd.zer166 : Go.Abs.zer Tryd.prog 166 = some (.agg [.v (.int .u64 0), .v (.int .u64 0), .v (.int .u32 0), .v (.int .u8 0), .v (.int .u8 0), .v (.int .u8 0), .v (.int .u8 0), .v (.nilFunc), .v (.pointer none), .v (.int .i32 0), .v (.int .i32 0)]) := by kernel_rfl
@[go_sem] theorem Tryd.plainSrc166 : Go.Abs.plainSrc Tryd.prog 166 = false := by kernel_rfl
@[go_sem] theorem Tryd.fld166_0 : Go.Abs.fld Tryd.prog 166 0 = some (0, 1, false) := by kernel_rfl
@[go_sem] theorem Tryd.fld166_1 : Go.Abs.fld Tryd.prog 166 1 = some (1, 1, false) := by kernel_rfl
@[go_sem] theorem Tryd.fld166_2 : Go.Abs.fld Tryd.prog 166 2 = some (2, 1, false) := by kernel_rfl
@[go_sem] theorem Tryd.fld166_3 : Go.Abs.fld Tryd.prog 166 3 = some (3, 1, false) := by kernel_rfl
@[go_sem] theorem Tryd.fld166_4 : Go.Abs.fld Tryd.prog 166 4 = some (4, 1, false) := by kernel_rfl
@[go_sem] theorem Tryd.fld166_5 : Go.Abs.fld Tryd.prog 166 5 = some (5, 1, false) := by kernel_rfl
@[go_sem] theorem Tryd.fld166_6 : Go.Abs.fld Tryd.prog 166 6 = some (6, 1, false) := by kernel_rfl
@[go_sem] theorem Tryd.fld166_7 : Go.Abs.fld Tryd.prog 166 7 = some (7, 1, false) := by kernel_rfl
@[go_sem] theorem Tryd.fld166_8 : Go.Abs.fld Tryd.prog 166 8 = some (8, 1, false) := by kernel_rfl
@[go_sem] theorem Tryd.fld166_9 : Go.Abs.fld Tryd.prog 166 9 = some (9, 1, false) := by kernel_rfl
@[go_sem] theorem Tryd.fld166_10 : Go.Abs.fld Tryd.prog 166 10 = some (10, 1, false) := by kernel_rfl
@[go_sem] theorem Tryd.und168 : Go.Abs.und Tryd.prog 168 = .unsafePointer := by kernel_rfl
@[go_sem] theorem Tryd.siz168 : Go.Abs.siz Tryd.prog 168 = some 1 := by kernel_rfl
@[go_sem] theorem Tryd.byt168 : Go.Abs.byt Tryd.prog 168 = some 8 := by kernel_rfl
@[go_sem] theorem Tryd.azero168 : Go.Abs.aZero Tryd.prog 168 = some (1, .v (.pointer none)) := by kernel_rfl
@[go_sem] theorem Tryd.zer168 : Go.Abs.zer Tryd.prog 168 = some (.v (.pointer none)) := by kernel_rfl
@[go_sem] theorem Tryd.plainSrc168 : Go.Abs.plainSrc Tryd.prog 168 = false := by kernel_rfl
end Go.Proofs
