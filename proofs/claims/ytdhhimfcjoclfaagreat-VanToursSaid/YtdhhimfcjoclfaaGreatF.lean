/- Closed facts of the seat's program: its types, fields and functions. -/
import Derived.Test.YtdhhimfcjoclfaaGreatKL
import Derived.Test.YtdhhimfcjoclfaaGreatProg
set_option linter.unusedVariables false
namespace Go.Proofs.YtdhhimfcjoclfaaGreat
open Go Go.K Go.Proofs
noncomputable abbrev P0 : Program := Tryz.prog
theorem mixed : P0.follows .mixedOrders = true := by kernel_rfl
theorem ty3 : TyI P0 3 false 1 8 [.int .i64 0] := mkTy (by kernel_rfl) (by kernel_rfl) rfl rfl
theorem ty4 : TyI P0 4 false 1 1 [.bool false] := mkTy (by kernel_rfl) (by kernel_rfl) rfl rfl
theorem ty22 : TyI P0 22 false 1 24 [.slice none 0 0] := mkTy (by kernel_rfl) (by kernel_rfl) rfl rfl
theorem ty23 : TyI P0 23 false 1 24 [.slice none 0 0] := mkTy (by kernel_rfl) (by kernel_rfl) rfl rfl
theorem ty25 : TyI P0 25 true 5 72 [.slice none 0 0, .slice none 0 0, .int .i64 0, .int .i64 0, .int .i64 0] := mkTy (by kernel_rfl) (by kernel_rfl) rfl rfl
theorem fld25_0 : FldI P0 25 0 0 := mkFld (k := 0) (by kernel_rfl)
theorem fld25_1 : FldI P0 25 1 1 := mkFld (k := 0) (by kernel_rfl)
theorem fld25_2 : FldI P0 25 2 2 := mkFld (k := 0) (by kernel_rfl)
theorem fld25_3 : FldI P0 25 3 3 := mkFld (k := 0) (by kernel_rfl)
theorem fld25_4 : FldI P0 25 4 4 := mkFld (k := 0) (by kernel_rfl)
theorem st25 : StI P0 25 [(0, 1), (1, 1), (2, 1), (3, 1), (4, 1)] := mkSt (by kernel_rfl)
theorem ty26 : TyI P0 26 false 1 24 [.slice none 0 0] := mkTy (by kernel_rfl) (by kernel_rfl) rfl rfl
theorem ty34 : TyI P0 34 true 5 40 [.int .i64 0, .int .i64 0, .int .i64 0, .int .i64 0, .int .i64 0] := mkTy (by kernel_rfl) (by kernel_rfl) rfl rfl
theorem fld34_0 : FldI P0 34 0 0 := mkFld (k := 0) (by kernel_rfl)
theorem fld34_1 : FldI P0 34 1 1 := mkFld (k := 0) (by kernel_rfl)
theorem fld34_2 : FldI P0 34 2 2 := mkFld (k := 0) (by kernel_rfl)
theorem fld34_3 : FldI P0 34 3 3 := mkFld (k := 0) (by kernel_rfl)
theorem fld34_4 : FldI P0 34 4 4 := mkFld (k := 0) (by kernel_rfl)
theorem fb34 : flatB P0 34 [true, true, true, true, true] = true := by kernel_rfl
theorem st34 : StI P0 34 [(0, 1), (1, 1), (2, 1), (3, 1), (4, 1)] := mkSt (by kernel_rfl)
theorem ty39 : TyI P0 39 false 1 24 [.slice none 0 0] := mkTy (by kernel_rfl) (by kernel_rfl) rfl rfl
theorem ty41 : TyI P0 41 true 2 32 [.int .i64 0, .slice none 0 0] := mkTy (by kernel_rfl) (by kernel_rfl) rfl rfl
theorem fld41_0 : FldI P0 41 0 0 := mkFld (k := 0) (by kernel_rfl)
theorem fld41_1 : FldI P0 41 1 1 := mkFld (k := 0) (by kernel_rfl)
theorem st41 : StI P0 41 [(0, 1), (1, 1)] := mkSt (by kernel_rfl)
theorem ty44 : TyI P0 44 true 2 16 [.int .i64 0, .bool false] := mkTy (by kernel_rfl) (by kernel_rfl) rfl rfl
theorem fld44_0 : FldI P0 44 0 0 := mkFld (k := 0) (by kernel_rfl)
theorem fld44_1 : FldI P0 44 1 1 := mkFld (k := 0) (by kernel_rfl)
theorem st44 : StI P0 44 [(0, 1), (1, 1)] := mkSt (by kernel_rfl)
theorem ty47 : TyI P0 47 true 3 24 [.int .i64 0, .int .i64 0, .int .i64 0] := mkTy (by kernel_rfl) (by kernel_rfl) rfl rfl
theorem fld47_0 : FldI P0 47 0 0 := mkFld (k := 0) (by kernel_rfl)
theorem fld47_1 : FldI P0 47 1 1 := mkFld (k := 0) (by kernel_rfl)
theorem fld47_2 : FldI P0 47 2 2 := mkFld (k := 0) (by kernel_rfl)
theorem st47 : StI P0 47 [(0, 1), (1, 1), (2, 1)] := mkSt (by kernel_rfl)
theorem ty49 : TyI P0 49 true 2 16 [.int .i64 0, .int .i64 0] := mkTy (by kernel_rfl) (by kernel_rfl) rfl rfl
theorem ty51 : TyI P0 51 false 1 24 [.slice none 0 0] := mkTy (by kernel_rfl) (by kernel_rfl) rfl rfl
theorem ty53 : TyI P0 53 true 5 72 [.slice none 0 0, .slice none 0 0, .int .i64 0, .int .i64 0, .int .i64 0] := mkTy (by kernel_rfl) (by kernel_rfl) rfl rfl
theorem fld53_0 : FldI P0 53 0 0 := mkFld (k := 0) (by kernel_rfl)
theorem fld53_1 : FldI P0 53 1 1 := mkFld (k := 0) (by kernel_rfl)
theorem fld53_2 : FldI P0 53 2 2 := mkFld (k := 0) (by kernel_rfl)
theorem fld53_3 : FldI P0 53 3 3 := mkFld (k := 0) (by kernel_rfl)
theorem fld53_4 : FldI P0 53 4 4 := mkFld (k := 0) (by kernel_rfl)
theorem st53 : StI P0 53 [(0, 1), (1, 1), (2, 1), (3, 1), (4, 1)] := mkSt (by kernel_rfl)
theorem ty61 : TyI P0 61 true 3 40 [.slice none 0 0, .int .i64 0, .int .i64 0] := mkTy (by kernel_rfl) (by kernel_rfl) rfl rfl
theorem fld61_0 : FldI P0 61 0 0 := mkFld (k := 0) (by kernel_rfl)
theorem fld61_1 : FldI P0 61 1 1 := mkFld (k := 0) (by kernel_rfl)
theorem fld61_2 : FldI P0 61 2 2 := mkFld (k := 0) (by kernel_rfl)
theorem st61 : StI P0 61 [(0, 1), (1, 1), (2, 1)] := mkSt (by kernel_rfl)
theorem ty64 : TyI P0 64 true 3 40 [.slice none 0 0, .int .i64 0, .int .i64 0] := mkTy (by kernel_rfl) (by kernel_rfl) rfl rfl
theorem fld64_0 : FldI P0 64 0 0 := mkFld (k := 0) (by kernel_rfl)
theorem fld64_1 : FldI P0 64 1 1 := mkFld (k := 0) (by kernel_rfl)
theorem fld64_2 : FldI P0 64 2 2 := mkFld (k := 0) (by kernel_rfl)
theorem st64 : StI P0 64 [(0, 1), (1, 1), (2, 1)] := mkSt (by kernel_rfl)
theorem ty77 : TyI P0 77 false 1 24 [.slice none 0 0] := mkTy (by kernel_rfl) (by kernel_rfl) rfl rfl
theorem ty120 : TyI P0 120 true 5 40 [.int .i64 0, .int .i64 0, .int .i64 0, .int .i64 0, .int .i64 0] := mkTy (by kernel_rfl) (by kernel_rfl) rfl rfl
theorem fld120_0 : FldI P0 120 0 0 := mkFld (k := 0) (by kernel_rfl)
theorem fld120_1 : FldI P0 120 1 1 := mkFld (k := 0) (by kernel_rfl)
theorem fld120_2 : FldI P0 120 2 2 := mkFld (k := 0) (by kernel_rfl)
theorem fld120_3 : FldI P0 120 3 3 := mkFld (k := 0) (by kernel_rfl)
theorem fld120_4 : FldI P0 120 4 4 := mkFld (k := 0) (by kernel_rfl)
theorem ty143 : TyI P0 143 true 3 40 [.bool false, .slice none 0 0, .int .i64 0] := mkTy (by kernel_rfl) (by kernel_rfl) rfl rfl
theorem fld143_0 : FldI P0 143 0 0 := mkFld (k := 0) (by kernel_rfl)
theorem fld143_1 : FldI P0 143 1 1 := mkFld (k := 0) (by kernel_rfl)
theorem fld143_2 : FldI P0 143 2 2 := mkFld (k := 0) (by kernel_rfl)
theorem st143 : StI P0 143 [(0, 1), (1, 1), (2, 1)] := mkSt (by kernel_rfl)
theorem ty148 : TyI P0 148 true 3 24 [.int .i64 0, .bool false, .bool false] := mkTy (by kernel_rfl) (by kernel_rfl) rfl rfl
theorem fld148_0 : FldI P0 148 0 0 := mkFld (k := 1) (by kernel_rfl)
theorem fld148_1 : FldI P0 148 1 2 := mkFld (k := 0) (by kernel_rfl)
theorem st148 : StI P0 148 [(0, 2), (2, 1)] := mkSt (by kernel_rfl)
theorem ty175 : TyI P0 175 false 1 8 [.nilFunc] := mkTy (by kernel_rfl) (by kernel_rfl) rfl rfl
theorem ty178 : TyI P0 178 false 1 24 [.slice none 0 0] := mkTy (by kernel_rfl) (by kernel_rfl) rfl rfl
theorem ty181 : TyI P0 181 false 1 24 [.slice none 0 0] := mkTy (by kernel_rfl) (by kernel_rfl) rfl rfl
theorem ty185 : TyI P0 185 false 1 24 [.slice none 0 0] := mkTy (by kernel_rfl) (by kernel_rfl) rfl rfl
theorem ty190 : TyI P0 190 true 2 32 [.int .i64 0, .slice none 0 0] := mkTy (by kernel_rfl) (by kernel_rfl) rfl rfl
theorem fld190_0 : FldI P0 190 0 0 := mkFld (k := 0) (by kernel_rfl)
theorem fld190_1 : FldI P0 190 1 1 := mkFld (k := 0) (by kernel_rfl)
theorem st190 : StI P0 190 [(0, 1), (1, 1)] := mkSt (by kernel_rfl)
theorem ty204 : TyI P0 204 true 4 32 [.int .i64 0, .int .i64 0, .int .i64 0, .int .i64 0] := mkTy (by kernel_rfl) (by kernel_rfl) rfl rfl
theorem ent6 : Ent P0 6 := mkEnt (by kernel_rfl)
theorem ent7 : Ent P0 7 := mkEnt (by kernel_rfl)
theorem ent8 : Ent P0 8 := mkEnt (by kernel_rfl)
theorem ent9 : Ent P0 9 := mkEnt (by kernel_rfl)
theorem ent12 : Ent P0 12 := mkEnt (by kernel_rfl)
theorem ent13 : Ent P0 13 := mkEnt (by kernel_rfl)
theorem ent15 : Ent P0 15 := mkEnt (by kernel_rfl)
theorem ent16 : Ent P0 16 := mkEnt (by kernel_rfl)
theorem ent17 : Ent P0 17 := mkEnt (by kernel_rfl)
theorem ent18 : Ent P0 18 := mkEnt (by kernel_rfl)
theorem ent19 : Ent P0 19 := mkEnt (by kernel_rfl)
theorem ent20 : Ent P0 20 := mkEnt (by kernel_rfl)
theorem ent21 : Ent P0 21 := mkEnt (by kernel_rfl)
theorem ent22 : Ent P0 22 := mkEnt (by kernel_rfl)
theorem ent23 : Ent P0 23 := mkEnt (by kernel_rfl)
theorem ent24 : Ent P0 24 := mkEnt (by kernel_rfl)
theorem ent25 : Ent P0 25 := mkEnt (by kernel_rfl)
theorem ent26 : Ent P0 26 := mkEnt (by kernel_rfl)
theorem ent27 : Ent P0 27 := mkEnt (by kernel_rfl)
theorem ent28 : Ent P0 28 := mkEnt (by kernel_rfl)
theorem ent29 : Ent P0 29 := mkEnt (by kernel_rfl)
theorem ent30 : Ent P0 30 := mkEnt (by kernel_rfl)
theorem ent31 : Ent P0 31 := mkEnt (by kernel_rfl)
theorem ent32 : Ent P0 32 := mkEnt (by kernel_rfl)
theorem ent37 : Ent P0 37 := mkEnt (by kernel_rfl)
theorem ent40 : Ent P0 40 := mkEnt (by kernel_rfl)
theorem ent46 : Ent P0 46 := mkEnt (by kernel_rfl)
theorem ent53 : Ent P0 53 := mkEnt (by kernel_rfl)
theorem ent58 : Ent P0 58 := mkEnt (by kernel_rfl)
theorem ent59 : Ent P0 59 := mkEnt (by kernel_rfl)
theorem ent60 : Ent P0 60 := mkEnt (by kernel_rfl)
theorem ent61 : Ent P0 61 := mkEnt (by kernel_rfl)
theorem ent62 : Ent P0 62 := mkEnt (by kernel_rfl)
theorem ent63 : Ent P0 63 := mkEnt (by kernel_rfl)
theorem ent64 : Ent P0 64 := mkEnt (by kernel_rfl)
theorem ent65 : Ent P0 65 := mkEnt (by kernel_rfl)
theorem ent66 : Ent P0 66 := mkEnt (by kernel_rfl)
theorem ent67 : Ent P0 67 := mkEnt (by kernel_rfl)
theorem ent68 : Ent P0 68 := mkEnt (by kernel_rfl)
theorem ent69 : Ent P0 69 := mkEnt (by kernel_rfl)
theorem ent70 : Ent P0 70 := mkEnt (by kernel_rfl)
theorem ent71 : Ent P0 71 := mkEnt (by kernel_rfl)
theorem ent72 : Ent P0 72 := mkEnt (by kernel_rfl)
theorem ent73 : Ent P0 73 := mkEnt (by kernel_rfl)
theorem ent74 : Ent P0 74 := mkEnt (by kernel_rfl)
theorem ent75 : Ent P0 75 := mkEnt (by kernel_rfl)
theorem ent76 : Ent P0 76 := mkEnt (by kernel_rfl)
theorem ent77 : Ent P0 77 := mkEnt (by kernel_rfl)
theorem ent78 : Ent P0 78 := mkEnt (by kernel_rfl)
theorem ent79 : Ent P0 79 := mkEnt (by kernel_rfl)
theorem ent80 : Ent P0 80 := mkEnt (by kernel_rfl)
theorem ent81 : Ent P0 81 := mkEnt (by kernel_rfl)
theorem ent82 : Ent P0 82 := mkEnt (by kernel_rfl)
theorem ent87 : Ent P0 87 := mkEnt (by kernel_rfl)
theorem ent88 : Ent P0 88 := mkEnt (by kernel_rfl)
theorem ent93 : Ent P0 93 := mkEnt (by kernel_rfl)
theorem ent98 : Ent P0 98 := mkEnt (by kernel_rfl)
theorem ent99 : Ent P0 99 := mkEnt (by kernel_rfl)
theorem ent100 : Ent P0 100 := mkEnt (by kernel_rfl)
theorem ent101 : Ent P0 101 := mkEnt (by kernel_rfl)
theorem ent103 : Ent P0 103 := mkEnt (by kernel_rfl)
theorem ent104 : Ent P0 104 := mkEnt (by kernel_rfl)
theorem ent105 : Ent P0 105 := mkEnt (by kernel_rfl)
theorem ent106 : Ent P0 106 := mkEnt (by kernel_rfl)
theorem ent107 : Ent P0 107 := mkEnt (by kernel_rfl)
theorem ent108 : Ent P0 108 := mkEnt (by kernel_rfl)
theorem ent109 : Ent P0 109 := mkEnt (by kernel_rfl)
theorem ent110 : Ent P0 110 := mkEnt (by kernel_rfl)
theorem ent111 : Ent P0 111 := mkEnt (by kernel_rfl)
theorem ent112 : Ent P0 112 := mkEnt (by kernel_rfl)
theorem ent113 : Ent P0 113 := mkEnt (by kernel_rfl)
theorem ent114 : Ent P0 114 := mkEnt (by kernel_rfl)
theorem ent115 : Ent P0 115 := mkEnt (by kernel_rfl)
theorem ent116 : Ent P0 116 := mkEnt (by kernel_rfl)
theorem ent117 : Ent P0 117 := mkEnt (by kernel_rfl)
theorem ent118 : Ent P0 118 := mkEnt (by kernel_rfl)
theorem ent119 : Ent P0 119 := mkEnt (by kernel_rfl)
theorem ent120 : Ent P0 120 := mkEnt (by kernel_rfl)
theorem ent121 : Ent P0 121 := mkEnt (by kernel_rfl)
theorem ent122 : Ent P0 122 := mkEnt (by kernel_rfl)
theorem ent123 : Ent P0 123 := mkEnt (by kernel_rfl)
theorem ent125 : Ent P0 125 := mkEnt (by kernel_rfl)
theorem ent126 : Ent P0 126 := mkEnt (by kernel_rfl)
theorem ent128 : Ent P0 128 := mkEnt (by kernel_rfl)
theorem ent129 : Ent P0 129 := mkEnt (by kernel_rfl)
theorem ent130 : Ent P0 130 := mkEnt (by kernel_rfl)
theorem ent131 : Ent P0 131 := mkEnt (by kernel_rfl)
theorem ent134 : Ent P0 134 := mkEnt (by kernel_rfl)
theorem ent148 : Ent P0 148 := mkEnt (by kernel_rfl)
end Go.Proofs.YtdhhimfcjoclfaaGreat
