import Derived.Test.YtekaeegjohanjaaGreatDoorAbE
import Derived.Test.YtekaeegjohanjaaGreatDoorProg
set_option linter.all false
namespace Go.Proofs
@[go_sem] theorem Tryz.und3:Go.Abs.und Tryz.prog 3 = .int .i64:=by kernel_rfl
@[go_sem] theorem Tryz.siz3:Go.Abs.siz Tryz.prog 3=some 1:=by kernel_rfl
@[go_sem] theorem Tryz.byt3:Go.Abs.byt Tryz.prog 3=some 8:=by kernel_rfl
@[go_sem] theorem Tryz.azero3:Go.Abs.aZero Tryz.prog 3=some (1, .v (.int .i64 0)):=by kernel_rfl
@[go_sem] theorem Tryz.und4:Go.Abs.und Tryz.prog 4 = .bool:=by kernel_rfl
@[go_sem] theorem Tryz.siz4:Go.Abs.siz Tryz.prog 4=some 1:=by kernel_rfl
@[go_sem] theorem Tryz.und5:Go.Abs.und Tryz.prog 5 = .int .u8:=by kernel_rfl
@[go_sem] theorem Tryz.und9:Go.Abs.und Tryz.prog 9 = .string:=by kernel_rfl
@[go_sem] theorem Tryz.siz9:Go.Abs.siz Tryz.prog 9=some 1:=by kernel_rfl
@[go_sem] theorem Tryz.byt9:Go.Abs.byt Tryz.prog 9=some 16:=by kernel_rfl
@[go_sem] theorem Tryz.azero9:Go.Abs.aZero Tryz.prog 9=some (1, .v (.string ByteArray.empty)):=by kernel_rfl
@[go_sem] theorem Tryz.und24:Go.Abs.und Tryz.prog 24 = .int .i64:=by kernel_rfl
@[go_sem] theorem Tryz.siz24:Go.Abs.siz Tryz.prog 24=some 1:=by kernel_rfl
@[go_sem] theorem Tryz.und31:Go.Abs.und Tryz.prog 31 = .slice 3:=by kernel_rfl
@[go_sem] theorem Tryz.siz31:Go.Abs.siz Tryz.prog 31=some 1:=by kernel_rfl
@[go_sem] theorem Tryz.plainSrc31:Go.Abs.plainSrc Tryz.prog 31=true:=by kernel_rfl
@[go_sem] theorem Tryz.und43 : Go.Abs.und Tryz.prog 43 = .struct #[⟨ "Version", 3, 0, false, "", "", 0⟩, ⟨ "Weights", 31, 1, false, "", "", 8⟩] := by kernel_rfl
@[go_sem] theorem Tryz.siz43:Go.Abs.siz Tryz.prog 43=some 2:=by kernel_rfl
@[go_sem] theorem Tryz.fld43_0:Go.Abs.fld Tryz.prog 43 0=some (0,1,false):=by kernel_rfl
@[go_sem] theorem Tryz.fld43_1:Go.Abs.fld Tryz.prog 43 1=some (1,1,false):=by kernel_rfl
@[go_sem] theorem Tryz.und44:Go.Abs.und Tryz.prog 44 = .slice 47:=by kernel_rfl
@[go_sem] theorem Tryz.siz44:Go.Abs.siz Tryz.prog 44=some 1:=by kernel_rfl
@[go_sem] theorem Tryz.und46 : Go.Abs.und Tryz.prog 46 = .struct #[⟨ "Was", 43, 0, false, "", "", 0⟩, ⟨ "Will", 43, 2, false, "", "", 32⟩, ⟨ "Cursor", 9, 4, false, "", "", 64⟩, ⟨ "Done", 4, 5, false, "", "", 80⟩, ⟨ "Rows", 44, 6, false, "", "", 88⟩] := by kernel_rfl
@[go_sem] theorem Tryz.siz46:Go.Abs.siz Tryz.prog 46=some 7:=by kernel_rfl
@[go_sem] theorem Tryz.und47:Go.Abs.und Tryz.prog 47 = .slice 131:=by kernel_rfl
@[go_sem] theorem Tryz.siz47:Go.Abs.siz Tryz.prog 47=some 1:=by kernel_rfl
@[go_sem] theorem Tryz.plainSrc47:Go.Abs.plainSrc Tryz.prog 47=true:=by kernel_rfl
@[go_sem] theorem Tryz.und49 : Go.Abs.und Tryz.prog 49 = .struct #[⟨ "Was", 43, 0, false, "", "", 0⟩, ⟨ "Will", 43, 2, false, "", "", 32⟩, ⟨ "Cursor", 9, 4, false, "", "", 64⟩, ⟨ "Done", 4, 5, false, "", "", 80⟩] := by kernel_rfl
@[go_sem] theorem Tryz.siz49:Go.Abs.siz Tryz.prog 49=some 6:=by kernel_rfl
@[go_sem] theorem Tryz.und51:Go.Abs.und Tryz.prog 51 = .slice 87:=by kernel_rfl
@[go_sem] theorem Tryz.plainSrc51:Go.Abs.plainSrc Tryz.prog 51=true:=by kernel_rfl
@[go_sem] theorem Tryz.und60:Go.Abs.und Tryz.prog 60 = .int .u64:=by kernel_rfl
@[go_sem] theorem Tryz.siz60:Go.Abs.siz Tryz.prog 60=some 1:=by kernel_rfl
@[go_sem] theorem Tryz.und64:Go.Abs.und Tryz.prog 64 = .slice 74:=by kernel_rfl
@[go_sem] theorem Tryz.und65:Go.Abs.und Tryz.prog 65 = .slice 147:=by kernel_rfl
@[go_sem] theorem Tryz.plainSrc65:Go.Abs.plainSrc Tryz.prog 65=true:=by kernel_rfl
@[go_sem] theorem Tryz.und68 : Go.Abs.und Tryz.prog 68 = .struct #[⟨ "Was", 43, 0, false, "", "", 0⟩, ⟨ "Will", 43, 2, false, "", "", 32⟩, ⟨ "Cursor", 9, 4, false, "", "", 64⟩, ⟨ "Done", 4, 5, false, "", "", 80⟩] := by kernel_rfl
@[go_sem] theorem Tryz.siz68:Go.Abs.siz Tryz.prog 68=some 6:=by kernel_rfl
@[go_sem] theorem Tryz.und72:Go.Abs.und Tryz.prog 72 = .slice 89:=by kernel_rfl
@[go_sem] theorem Tryz.siz72:Go.Abs.siz Tryz.prog 72=some 1:=by kernel_rfl
@[go_sem] theorem Tryz.plainSrc72:Go.Abs.plainSrc Tryz.prog 72=true:=by kernel_rfl
@[go_sem] theorem Tryz.und74 : Go.Abs.und Tryz.prog 74 = .struct #[⟨ "N", 3, 0, false, "", "", 0⟩, ⟨ "Ops", 72, 1, false, "", "", 8⟩] := by kernel_rfl
@[go_sem] theorem Tryz.siz74:Go.Abs.siz Tryz.prog 74=some 2:=by kernel_rfl
@[go_sem] theorem Tryz.fld74_0:Go.Abs.fld Tryz.prog 74 0=some (0,1,false):=by kernel_rfl
@[go_sem] theorem Tryz.fld74_1:Go.Abs.fld Tryz.prog 74 1=some (1,1,false):=by kernel_rfl
@[go_sem] theorem Tryz.und78:Go.Abs.und Tryz.prog 78 = .slice 157:=by kernel_rfl
@[go_sem] theorem Tryz.plainSrc78:Go.Abs.plainSrc Tryz.prog 78=true:=by kernel_rfl
@[go_sem] theorem Tryz.und80 : Go.Abs.und Tryz.prog 80 = .struct #[⟨ "At", 3, 0, false, "", "", 0⟩, ⟨ "Code", 24, 1, false, "", "", 8⟩] := by kernel_rfl
@[go_sem] theorem Tryz.siz80:Go.Abs.siz Tryz.prog 80=some 2:=by kernel_rfl
@[go_sem] theorem Tryz.und87:Go.Abs.und Tryz.prog 87 = .pointer 160:=by kernel_rfl
@[go_sem] theorem Tryz.siz87:Go.Abs.siz Tryz.prog 87=some 1:=by kernel_rfl
@[go_sem] theorem Tryz.byt87:Go.Abs.byt Tryz.prog 87=some 8:=by kernel_rfl
@[go_sem] theorem Tryz.azero87:Go.Abs.aZero Tryz.prog 87=some (1, .v (.pointer none)):=by kernel_rfl
@[go_sem] theorem Tryz.und89 : Go.Abs.und Tryz.prog 89 = .struct #[⟨ "Kind", 3, 0, false, "", "", 0⟩, ⟨ "Key", 9, 1, false, "", "", 8⟩, ⟨ "Val", 9, 2, false, "", "", 24⟩, ⟨ "Stamp", 3, 3, false, "", "", 40⟩, ⟨ "Test", 3, 4, false, "", "", 48⟩, ⟨ "Most", 3, 5, false, "", "", 56⟩] := by kernel_rfl
@[go_sem] theorem Tryz.siz89:Go.Abs.siz Tryz.prog 89=some 6:=by kernel_rfl
@[go_sem] theorem Tryz.byt89:Go.Abs.byt Tryz.prog 89=some 64:=by kernel_rfl
@[go_sem] theorem Tryz.azero89:Go.Abs.aZero Tryz.prog 89=some (6, .agg [.v (.int .i64 0), .v (.string ByteArray.empty), .v (.string ByteArray.empty), .v (.int .i64 0), .v (.int .i64 0), .v (.int .i64 0)]):=by kernel_rfl
@[go_sem] theorem Tryz.fld89_0:Go.Abs.fld Tryz.prog 89 0=some (0,1,false):=by kernel_rfl
@[go_sem] theorem Tryz.fld89_1:Go.Abs.fld Tryz.prog 89 1=some (1,1,false):=by kernel_rfl
@[go_sem] theorem Tryz.und96 : Go.Abs.und Tryz.prog 96 = .struct #[⟨ "From", 9, 0, false, "", "", 0⟩, ⟨ "To", 9, 1, false, "", "", 16⟩] := by kernel_rfl
@[go_sem] theorem Tryz.siz96:Go.Abs.siz Tryz.prog 96=some 2:=by kernel_rfl
@[go_sem] theorem Tryz.und131 : Go.Abs.und Tryz.prog 131 = .struct #[⟨ "Key", 9, 0, false, "", "", 0⟩, ⟨ "Stamp", 3, 1, false, "", "", 16⟩, ⟨ "Val", 9, 2, false, "", "", 24⟩] := by kernel_rfl
@[go_sem] theorem Tryz.siz131:Go.Abs.siz Tryz.prog 131=some 3:=by kernel_rfl
@[go_sem] theorem Tryz.byt131:Go.Abs.byt Tryz.prog 131=some 40:=by kernel_rfl
@[go_sem] theorem Tryz.azero131:Go.Abs.aZero Tryz.prog 131=some (3, .agg [.v (.string ByteArray.empty), .v (.int .i64 0), .v (.string ByteArray.empty)]):=by kernel_rfl
@[go_sem] theorem Tryz.fld131_0:Go.Abs.fld Tryz.prog 131 0=some (0,1,false):=by kernel_rfl
@[go_sem] theorem Tryz.fld131_1:Go.Abs.fld Tryz.prog 131 1=some (1,1,false):=by kernel_rfl
@[go_sem] theorem Tryz.und137:Go.Abs.und Tryz.prog 137 = .slice 141:=by kernel_rfl
@[go_sem] theorem Tryz.und142:Go.Abs.und Tryz.prog 142 = .slice 9:=by kernel_rfl
@[go_sem] theorem Tryz.plainSrc142:Go.Abs.plainSrc Tryz.prog 142=true:=by kernel_rfl
@[go_sem] theorem Tryz.und147:Go.Abs.und Tryz.prog 147 = .pointer 149:=by kernel_rfl
@[go_sem] theorem Tryz.siz147:Go.Abs.siz Tryz.prog 147=some 1:=by kernel_rfl
@[go_sem] theorem Tryz.byt147:Go.Abs.byt Tryz.prog 147=some 8:=by kernel_rfl
@[go_sem] theorem Tryz.azero147:Go.Abs.aZero Tryz.prog 147=some (1, .v (.pointer none)):=by kernel_rfl
@[go_sem] theorem Tryz.fld149_0:Go.Abs.fld Tryz.prog 149 0=some (0,1,false):=by kernel_rfl
@[go_sem] theorem Tryz.und157 : Go.Abs.und Tryz.prog 157 = .struct #[⟨ "Code", 24, 0, false, "", "", 0⟩, ⟨ "Stamp", 3, 1, false, "", "", 8⟩, ⟨ "Val", 9, 2, false, "", "", 16⟩, ⟨ "Rows", 47, 3, false, "", "", 32⟩] := by kernel_rfl
@[go_sem] theorem Tryz.siz157:Go.Abs.siz Tryz.prog 157=some 4:=by kernel_rfl
@[go_sem] theorem Tryz.byt157:Go.Abs.byt Tryz.prog 157=some 56:=by kernel_rfl
@[go_sem] theorem Tryz.azero157:Go.Abs.aZero Tryz.prog 157=some (4, .agg [.v (.int .i64 0), .v (.int .i64 0), .v (.string ByteArray.empty), .v (.slice none 0 0)]):=by kernel_rfl
@[go_sem] theorem Tryz.fld157_0:Go.Abs.fld Tryz.prog 157 0=some (0,1,false):=by kernel_rfl
@[go_sem] theorem Tryz.fld157_1:Go.Abs.fld Tryz.prog 157 1=some (1,1,false):=by kernel_rfl
@[go_sem] theorem Tryz.fld157_2:Go.Abs.fld Tryz.prog 157 2=some (2,1,false):=by kernel_rfl
@[go_sem] theorem Tryz.fld157_3:Go.Abs.fld Tryz.prog 157 3=some (3,1,false):=by kernel_rfl
@[go_sem] theorem Tryz.und160 : Go.Abs.und Tryz.prog 160 = .struct #[⟨ "rows", 47, 0, false, "", "skylark/table", 0⟩] := by kernel_rfl
@[go_sem] theorem Tryz.siz160:Go.Abs.siz Tryz.prog 160=some 1:=by kernel_rfl
@[go_sem] theorem Tryz.fld160_0:Go.Abs.fld Tryz.prog 160 0=some (0,1,false):=by kernel_rfl
@[go_sem] theorem Tryz.und182:Go.Abs.und Tryz.prog 182 = .slice 220:=by kernel_rfl
@[go_sem] theorem Tryz.plainSrc182:Go.Abs.plainSrc Tryz.prog 182=true:=by kernel_rfl
@[go_sem] theorem Tryz.und188:Go.Abs.und Tryz.prog 188 = .slice 228:=by kernel_rfl
@[go_sem] theorem Tryz.plainSrc188:Go.Abs.plainSrc Tryz.prog 188=true:=by kernel_rfl
@[go_sem] theorem Tryz.und192 : Go.Abs.und Tryz.prog 192 = .struct #[⟨ "cursor", 9, 0, false, "", "skylark/layout", 0⟩, ⟨ "done", 4, 1, false, "", "skylark/layout", 16⟩] := by kernel_rfl
@[go_sem] theorem Tryz.siz192:Go.Abs.siz Tryz.prog 192=some 2:=by kernel_rfl
@[go_sem] theorem Tryz.und220 : Go.Abs.und Tryz.prog 220 = .struct #[⟨ "at", 60, 0, false, "", "skylark/ring", 0⟩, ⟨ "chain", 3, 1, false, "", "skylark/ring", 8⟩, ⟨ "i", 3, 2, false, "", "skylark/ring", 16⟩] := by kernel_rfl
@[go_sem] theorem Tryz.siz220:Go.Abs.siz Tryz.prog 220=some 3:=by kernel_rfl
@[go_sem] theorem Tryz.byt220:Go.Abs.byt Tryz.prog 220=some 24:=by kernel_rfl
@[go_sem] theorem Tryz.azero220:Go.Abs.aZero Tryz.prog 220=some (3, .agg [.v (.int .u64 0), .v (.int .i64 0), .v (.int .i64 0)]):=by kernel_rfl
@[go_sem] theorem Tryz.fld220_1:Go.Abs.fld Tryz.prog 220 1=some (1,1,false):=by kernel_rfl
@[go_sem] theorem Tryz.und228 : Go.Abs.und Tryz.prog 228 = .struct #[⟨ "At", 60, 0, false, "", "", 0⟩, ⟨ "Chain", 3, 1, false, "", "", 8⟩] := by kernel_rfl
@[go_sem] theorem Tryz.siz228:Go.Abs.siz Tryz.prog 228=some 2:=by kernel_rfl
@[go_sem] theorem Tryz.byt228:Go.Abs.byt Tryz.prog 228=some 16:=by kernel_rfl
@[go_sem] theorem Tryz.azero228:Go.Abs.aZero Tryz.prog 228=some (2, .agg [.v (.int .u64 0), .v (.int .i64 0)]):=by kernel_rfl
@[go_sem] theorem Tryz.fld228_0:Go.Abs.fld Tryz.prog 228 0=some (0,1,false):=by kernel_rfl
@[go_sem] theorem Tryz.fld228_1:Go.Abs.fld Tryz.prog 228 1=some (1,1,false):=by kernel_rfl
@[go_sem] theorem Tryz.und240:Go.Abs.und Tryz.prog 240 = .slice 5:=by kernel_rfl
@[go_sem] theorem Tryz.und241:Go.Abs.und Tryz.prog 241 = .slice 24:=by kernel_rfl
end Go.Proofs
