/- Closed facts of the seat's program: its types, fields and functions. -/
import Derived.Test.YtdhhimfcjoclfaaKL
import Derived.Test.YtdhhimfcjoclfaaProg
set_option linter.unusedVariables false
namespace Go.Proofs.Ytdhhimfcjoclfaa
open Go Go.K Go.Proofs
noncomputable abbrev P0 : Program := Try.prog
theorem mixed : P0.follows .mixedOrders = true := by kernel_rfl
theorem ty3 : TyI P0 3 false 1 8 [.int .i64 0] := mkTy (by kernel_rfl) (by kernel_rfl) rfl rfl
theorem ty4 : TyI P0 4 false 1 1 [.bool false] := mkTy (by kernel_rfl) (by kernel_rfl) rfl rfl
theorem ty5 : TyI P0 5 false 1 1 [.int .u8 0] := mkTy (by kernel_rfl) (by kernel_rfl) rfl rfl
theorem ty22 : TyI P0 22 false 1 24 [.slice none 0 0] := mkTy (by kernel_rfl) (by kernel_rfl) rfl rfl
theorem ty23 : TyI P0 23 false 1 24 [.slice none 0 0] := mkTy (by kernel_rfl) (by kernel_rfl) rfl rfl
theorem ty24 : TyI P0 24 false 1 24 [.slice none 0 0] := mkTy (by kernel_rfl) (by kernel_rfl) rfl rfl
theorem ty26 : TyI P0 26 true 5 72 [.slice none 0 0, .slice none 0 0, .int .i64 0, .int .i64 0, .int .i64 0] := mkTy (by kernel_rfl) (by kernel_rfl) rfl rfl
theorem fld26_0 : FldI P0 26 0 0 := mkFld (k := 0) (by kernel_rfl)
theorem fld26_1 : FldI P0 26 1 1 := mkFld (k := 0) (by kernel_rfl)
theorem fld26_2 : FldI P0 26 2 2 := mkFld (k := 0) (by kernel_rfl)
theorem fld26_3 : FldI P0 26 3 3 := mkFld (k := 0) (by kernel_rfl)
theorem fld26_4 : FldI P0 26 4 4 := mkFld (k := 0) (by kernel_rfl)
theorem st26 : StI P0 26 [(0, 1), (1, 1), (2, 1), (3, 1), (4, 1)] := mkSt (by kernel_rfl)
theorem ty30 : TyI P0 30 true 2 32 [.slice none 0 0, .int .i64 0] := mkTy (by kernel_rfl) (by kernel_rfl) rfl rfl
theorem fld30_0 : FldI P0 30 0 0 := mkFld (k := 0) (by kernel_rfl)
theorem fld30_1 : FldI P0 30 1 1 := mkFld (k := 0) (by kernel_rfl)
theorem st30 : StI P0 30 [(0, 1), (1, 1)] := mkSt (by kernel_rfl)
theorem ty34 : TyI P0 34 true 5 40 [.int .i64 0, .int .i64 0, .int .i64 0, .int .i64 0, .int .i64 0] := mkTy (by kernel_rfl) (by kernel_rfl) rfl rfl
theorem fld34_0 : FldI P0 34 0 0 := mkFld (k := 0) (by kernel_rfl)
theorem fld34_1 : FldI P0 34 1 1 := mkFld (k := 0) (by kernel_rfl)
theorem fld34_2 : FldI P0 34 2 2 := mkFld (k := 0) (by kernel_rfl)
theorem fld34_3 : FldI P0 34 3 3 := mkFld (k := 0) (by kernel_rfl)
theorem fld34_4 : FldI P0 34 4 4 := mkFld (k := 0) (by kernel_rfl)
theorem st34 : StI P0 34 [(0, 1), (1, 1), (2, 1), (3, 1), (4, 1)] := mkSt (by kernel_rfl)
theorem ty35 : TyI P0 35 false 1 24 [.slice none 0 0] := mkTy (by kernel_rfl) (by kernel_rfl) rfl rfl
theorem ty36 : TyI P0 36 false 1 24 [.slice none 0 0] := mkTy (by kernel_rfl) (by kernel_rfl) rfl rfl
theorem ty42 : TyI P0 42 true 3 40 [.slice none 0 0, .int .i64 0, .int .i64 0] := mkTy (by kernel_rfl) (by kernel_rfl) rfl rfl
theorem fld42_0 : FldI P0 42 0 0 := mkFld (k := 0) (by kernel_rfl)
theorem fld42_1 : FldI P0 42 1 1 := mkFld (k := 0) (by kernel_rfl)
theorem fld42_2 : FldI P0 42 2 2 := mkFld (k := 0) (by kernel_rfl)
theorem st42 : StI P0 42 [(0, 1), (1, 1), (2, 1)] := mkSt (by kernel_rfl)
theorem ty59 : TyI P0 59 true 3 40 [.bool false, .slice none 0 0, .int .i64 0] := mkTy (by kernel_rfl) (by kernel_rfl) rfl rfl
theorem fld59_0 : FldI P0 59 0 0 := mkFld (k := 0) (by kernel_rfl)
theorem fld59_1 : FldI P0 59 1 1 := mkFld (k := 0) (by kernel_rfl)
theorem fld59_2 : FldI P0 59 2 2 := mkFld (k := 0) (by kernel_rfl)
theorem st59 : StI P0 59 [(0, 1), (1, 1), (2, 1)] := mkSt (by kernel_rfl)
theorem ty71 : TyI P0 71 false 1 24 [.slice none 0 0] := mkTy (by kernel_rfl) (by kernel_rfl) rfl rfl
theorem ty73 : TyI P0 73 true 2 32 [.int .i64 0, .slice none 0 0] := mkTy (by kernel_rfl) (by kernel_rfl) rfl rfl
theorem fld73_0 : FldI P0 73 0 0 := mkFld (k := 0) (by kernel_rfl)
theorem fld73_1 : FldI P0 73 1 1 := mkFld (k := 0) (by kernel_rfl)
theorem st73 : StI P0 73 [(0, 1), (1, 1)] := mkSt (by kernel_rfl)
theorem ty89 : TyI P0 89 false 1 24 [.slice none 0 0] := mkTy (by kernel_rfl) (by kernel_rfl) rfl rfl
theorem ty92 : TyI P0 92 false 1 24 [.slice none 0 0] := mkTy (by kernel_rfl) (by kernel_rfl) rfl rfl
theorem ty106 : TyI P0 106 true 3 24 [.int .i64 0, .int .i64 0, .int .i64 0] := mkTy (by kernel_rfl) (by kernel_rfl) rfl rfl
theorem fld106_0 : FldI P0 106 0 0 := mkFld (k := 0) (by kernel_rfl)
theorem fld106_1 : FldI P0 106 1 1 := mkFld (k := 0) (by kernel_rfl)
theorem fld106_2 : FldI P0 106 2 2 := mkFld (k := 0) (by kernel_rfl)
theorem st106 : StI P0 106 [(0, 1), (1, 1), (2, 1)] := mkSt (by kernel_rfl)
theorem ty108 : TyI P0 108 true 2 16 [.int .i64 0, .bool false] := mkTy (by kernel_rfl) (by kernel_rfl) rfl rfl
theorem fld108_0 : FldI P0 108 0 0 := mkFld (k := 0) (by kernel_rfl)
theorem fld108_1 : FldI P0 108 1 1 := mkFld (k := 0) (by kernel_rfl)
theorem st108 : StI P0 108 [(0, 1), (1, 1)] := mkSt (by kernel_rfl)
theorem ty110 : TyI P0 110 true 3 24 [.int .i64 0, .bool false, .bool false] := mkTy (by kernel_rfl) (by kernel_rfl) rfl rfl
theorem fld110_0 : FldI P0 110 0 0 := mkFld (k := 1) (by kernel_rfl)
theorem fld110_1 : FldI P0 110 1 2 := mkFld (k := 0) (by kernel_rfl)
theorem st110 : StI P0 110 [(0, 2), (2, 1)] := mkSt (by kernel_rfl)
theorem ty129 : TyI P0 129 false 1 24 [.slice none 0 0] := mkTy (by kernel_rfl) (by kernel_rfl) rfl rfl
theorem ty133 : TyI P0 133 true 2 32 [.int .i64 0, .slice none 0 0] := mkTy (by kernel_rfl) (by kernel_rfl) rfl rfl
theorem fld133_0 : FldI P0 133 0 0 := mkFld (k := 0) (by kernel_rfl)
theorem fld133_1 : FldI P0 133 1 1 := mkFld (k := 0) (by kernel_rfl)
theorem st133 : StI P0 133 [(0, 1), (1, 1)] := mkSt (by kernel_rfl)
theorem ty142 : TyI P0 142 false 1 8 [.nilFunc] := mkTy (by kernel_rfl) (by kernel_rfl) rfl rfl
theorem ty149 : TyI P0 149 true 2 16 [.int .i64 0, .int .i64 0] := mkTy (by kernel_rfl) (by kernel_rfl) rfl rfl
theorem ty150 : TyI P0 150 true 4 32 [.int .i64 0, .int .i64 0, .int .i64 0, .int .i64 0] := mkTy (by kernel_rfl) (by kernel_rfl) rfl rfl
theorem ent6 : Ent P0 6 := mkEnt (by kernel_rfl)
theorem ent7 : Ent P0 7 := mkEnt (by kernel_rfl)
theorem ent8 : Ent P0 8 := mkEnt (by kernel_rfl)
theorem ent9 : Ent P0 9 := mkEnt (by kernel_rfl)
theorem ent10 : Ent P0 10 := mkEnt (by kernel_rfl)
theorem ent11 : Ent P0 11 := mkEnt (by kernel_rfl)
theorem ent12 : Ent P0 12 := mkEnt (by kernel_rfl)
theorem ent13 : Ent P0 13 := mkEnt (by kernel_rfl)
theorem ent18 : Ent P0 18 := mkEnt (by kernel_rfl)
theorem ent19 : Ent P0 19 := mkEnt (by kernel_rfl)
theorem ent20 : Ent P0 20 := mkEnt (by kernel_rfl)
theorem ent21 : Ent P0 21 := mkEnt (by kernel_rfl)
theorem ent22 : Ent P0 22 := mkEnt (by kernel_rfl)
theorem ent23 : Ent P0 23 := mkEnt (by kernel_rfl)
theorem ent24 : Ent P0 24 := mkEnt (by kernel_rfl)
theorem ent25 : Ent P0 25 := mkEnt (by kernel_rfl)
theorem ent26 : Ent P0 26 := mkEnt (by kernel_rfl)
theorem ent27 : Ent P0 27 := mkEnt (by kernel_rfl)
theorem ent28 : Ent P0 28 := mkEnt (by kernel_rfl)
theorem ent29 : Ent P0 29 := mkEnt (by kernel_rfl)
theorem ent31 : Ent P0 31 := mkEnt (by kernel_rfl)
theorem ent33 : Ent P0 33 := mkEnt (by kernel_rfl)
theorem ent35 : Ent P0 35 := mkEnt (by kernel_rfl)
theorem ent37 : Ent P0 37 := mkEnt (by kernel_rfl)
theorem ent38 : Ent P0 38 := mkEnt (by kernel_rfl)
theorem ent39 : Ent P0 39 := mkEnt (by kernel_rfl)
theorem ent40 : Ent P0 40 := mkEnt (by kernel_rfl)
theorem ent41 : Ent P0 41 := mkEnt (by kernel_rfl)
theorem ent42 : Ent P0 42 := mkEnt (by kernel_rfl)
theorem ent43 : Ent P0 43 := mkEnt (by kernel_rfl)
theorem ent44 : Ent P0 44 := mkEnt (by kernel_rfl)
theorem ent47 : Ent P0 47 := mkEnt (by kernel_rfl)
theorem ent48 : Ent P0 48 := mkEnt (by kernel_rfl)
theorem ent49 : Ent P0 49 := mkEnt (by kernel_rfl)
theorem ent50 : Ent P0 50 := mkEnt (by kernel_rfl)
theorem ent51 : Ent P0 51 := mkEnt (by kernel_rfl)
theorem ent52 : Ent P0 52 := mkEnt (by kernel_rfl)
theorem ent53 : Ent P0 53 := mkEnt (by kernel_rfl)
theorem ent54 : Ent P0 54 := mkEnt (by kernel_rfl)
theorem ent55 : Ent P0 55 := mkEnt (by kernel_rfl)
theorem ent56 : Ent P0 56 := mkEnt (by kernel_rfl)
theorem ent57 : Ent P0 57 := mkEnt (by kernel_rfl)
theorem ent59 : Ent P0 59 := mkEnt (by kernel_rfl)
theorem ent60 : Ent P0 60 := mkEnt (by kernel_rfl)
theorem ent61 : Ent P0 61 := mkEnt (by kernel_rfl)
theorem ent62 : Ent P0 62 := mkEnt (by kernel_rfl)
theorem ent63 : Ent P0 63 := mkEnt (by kernel_rfl)
theorem ent64 : Ent P0 64 := mkEnt (by kernel_rfl)
theorem ent65 : Ent P0 65 := mkEnt (by kernel_rfl)
theorem ent67 : Ent P0 67 := mkEnt (by kernel_rfl)
theorem ent68 : Ent P0 68 := mkEnt (by kernel_rfl)
theorem ent69 : Ent P0 69 := mkEnt (by kernel_rfl)
theorem ent70 : Ent P0 70 := mkEnt (by kernel_rfl)
theorem ent71 : Ent P0 71 := mkEnt (by kernel_rfl)
theorem ent72 : Ent P0 72 := mkEnt (by kernel_rfl)
theorem ent73 : Ent P0 73 := mkEnt (by kernel_rfl)
theorem ent74 : Ent P0 74 := mkEnt (by kernel_rfl)
theorem ent75 : Ent P0 75 := mkEnt (by kernel_rfl)
theorem ent76 : Ent P0 76 := mkEnt (by kernel_rfl)
theorem ent77 : Ent P0 77 := mkEnt (by kernel_rfl)
theorem ent80 : Ent P0 80 := mkEnt (by kernel_rfl)
theorem ent81 : Ent P0 81 := mkEnt (by kernel_rfl)
theorem ent82 : Ent P0 82 := mkEnt (by kernel_rfl)
theorem ent84 : Ent P0 84 := mkEnt (by kernel_rfl)
theorem ent87 : Ent P0 87 := mkEnt (by kernel_rfl)
theorem ent88 : Ent P0 88 := mkEnt (by kernel_rfl)
theorem ent89 : Ent P0 89 := mkEnt (by kernel_rfl)
end Go.Proofs.Ytdhhimfcjoclfaa
