/- A part of a proof: rules for reading Go code as code over plain values, and what follows for this program. Its conditions stand in each statement. -/
import Derived.KernelRfl
import Derived.Test.YtackcjahocaonaaGreatDoorProg
import Derived.Test.YtackcjahocaonaaGreatDoorAuto
section
set_option maxRecDepth 100000
namespace Go.Proofs
open Go.Ab
@[simp] theorem Tryz.ti1 : Tryz.prog.ti 1 = ⟨.func, 1, 8, .nilF⟩ := by kernel_rfl
@[simp] theorem Tryz.ti2 : Tryz.prog.ti 2 = ⟨.int .i64, 1, 8, .int .i64 0⟩ := by kernel_rfl
@[simp] theorem Tryz.ti3 : Tryz.prog.ti 3 = ⟨.int .i64, 1, 8, .int .i64 0⟩ := by kernel_rfl
@[simp] theorem Tryz.ti4 : Tryz.prog.ti 4 = ⟨.bool, 1, 1, .bool false⟩ := by kernel_rfl
@[simp] theorem Tryz.ti5 : Tryz.prog.ti 5 = ⟨.int .u8, 1, 1, .int .u8 0⟩ := by kernel_rfl
@[simp] theorem Tryz.ti6 : Tryz.prog.ti 6 = ⟨.int .u8, 1, 1, .int .u8 0⟩ := by kernel_rfl
@[simp] theorem Tryz.ti7 : Tryz.prog.ti 7 = ⟨.struct [(2, 0, false), (3, 1, false), (4, 2, false), (6, 3, false)], 4, 24, .agg [.int .i64 0, .int .i64 0, .bool false, .int .u8 0]⟩ := by kernel_rfl
@[simp] theorem Tryz.ti8 : Tryz.prog.ti 8 = ⟨.struct [(2, 0, false), (3, 1, false), (4, 2, false), (6, 3, false)], 4, 24, .agg [.int .i64 0, .int .i64 0, .bool false, .int .u8 0]⟩ := by kernel_rfl
@[simp] theorem Tryz.ti9 : Tryz.prog.ti 9 = ⟨.string, 1, 16, .str []⟩ := by kernel_rfl
@[simp] theorem Tryz.ti10 : Tryz.prog.ti 10 = ⟨.string, 1, 16, .str []⟩ := by kernel_rfl
@[simp] theorem Tryz.ti11 : Tryz.prog.ti 11 = ⟨.string, 1, 16, .str []⟩ := by kernel_rfl
@[simp] theorem Tryz.ti12 : Tryz.prog.ti 12 = ⟨.int .u64, 1, 8, .int .u64 0⟩ := by kernel_rfl
@[simp] theorem Tryz.ti13 : Tryz.prog.ti 13 = ⟨.struct [(9, 0, false), (12, 1, false)], 2, 24, .agg [.str [], .int .u64 0]⟩ := by kernel_rfl
@[simp] theorem Tryz.ti14 : Tryz.prog.ti 14 = ⟨.struct [(9, 0, false), (12, 1, false)], 2, 24, .agg [.str [], .int .u64 0]⟩ := by kernel_rfl
@[simp] theorem Tryz.ti15 : Tryz.prog.ti 15 = ⟨.pointer 333, 1, 8, .nilP⟩ := by kernel_rfl
@[simp] theorem Tryz.ti16 : Tryz.prog.ti 16 = ⟨.pointer 336, 1, 8, .nilP⟩ := by kernel_rfl
@[simp] theorem Tryz.ti17 : Tryz.prog.ti 17 = ⟨.pointer 343, 1, 8, .nilP⟩ := by kernel_rfl
@[simp] theorem Tryz.ti18 : Tryz.prog.ti 18 = ⟨.struct [(17, 0, false)], 1, 8, .agg [.nilP]⟩ := by kernel_rfl
@[simp] theorem Tryz.ti19 : Tryz.prog.ti 19 = ⟨.struct [(17, 0, false)], 1, 8, .agg [.nilP]⟩ := by kernel_rfl
@[simp] theorem Tryz.ti20 : Tryz.prog.ti 20 = ⟨.iface true, 1, 16, .nilI⟩ := by kernel_rfl
@[simp] theorem Tryz.ti21 : Tryz.prog.ti 21 = ⟨.int .i32, 1, 4, .int .i32 0⟩ := by kernel_rfl
@[simp] theorem Tryz.ti22 : Tryz.prog.ti 22 = ⟨.slice 9, 1, 24, .nilS⟩ := by kernel_rfl
@[simp] theorem Tryz.ti23 : Tryz.prog.ti 23 = ⟨.slice 131, 1, 24, .nilS⟩ := by kernel_rfl
@[simp] theorem Tryz.ti24 : Tryz.prog.ti 24 = ⟨.struct [(22, 0, false), (23, 1, false)], 2, 48, .agg [.nilS, .nilS]⟩ := by kernel_rfl
@[simp] theorem Tryz.ti25 : Tryz.prog.ti 25 = ⟨.struct [(22, 0, false), (23, 1, false)], 2, 48, .agg [.nilS, .nilS]⟩ := by kernel_rfl
@[simp] theorem Tryz.ti26 : Tryz.prog.ti 26 = ⟨.slice 76, 1, 24, .nilS⟩ := by kernel_rfl
@[simp] theorem Tryz.ti27 : Tryz.prog.ti 27 = ⟨.slice 36, 1, 24, .nilS⟩ := by kernel_rfl
@[simp] theorem Tryz.ti28 : Tryz.prog.ti 28 = ⟨.slice 123, 1, 24, .nilS⟩ := by kernel_rfl
@[simp] theorem Tryz.ti29 : Tryz.prog.ti 29 = ⟨.struct [(28, 0, false)], 1, 24, .agg [.nilS]⟩ := by kernel_rfl
@[simp] theorem Tryz.ti30 : Tryz.prog.ti 30 = ⟨.struct [(28, 0, false)], 1, 24, .agg [.nilS]⟩ := by kernel_rfl
@[simp] theorem Tryz.ti31 : Tryz.prog.ti 31 = ⟨.struct [(9, 0, false), (26, 1, false), (27, 2, false), (30, 3, false), (30, 4, false), (5, 5, false), (4, 6, false)], 7, 120, .agg [.str [], .nilS, .nilS, .nilS, .nilS, .int .u8 0, .bool false]⟩ := by kernel_rfl
@[simp] theorem Tryz.ti32 : Tryz.prog.ti 32 = ⟨.struct [(9, 0, false), (26, 1, false), (27, 2, false), (30, 3, false), (30, 4, false), (5, 5, false), (4, 6, false)], 7, 120, .agg [.str [], .nilS, .nilS, .nilS, .nilS, .int .u8 0, .bool false]⟩ := by kernel_rfl
@[simp] theorem Tryz.ti33 : Tryz.prog.ti 33 = ⟨.slice 21, 1, 24, .nilS⟩ := by kernel_rfl
@[simp] theorem Tryz.ti34 : Tryz.prog.ti 34 = ⟨.int .u32, 1, 4, .int .u32 0⟩ := by kernel_rfl
@[simp] theorem Tryz.ti35 : Tryz.prog.ti 35 = ⟨.struct [(21, 0, false), (3, 1, false), (34, 2, false), (34, 3, false)], 4, 24, .agg [.int .i32 0, .int .i64 0, .int .u32 0, .int .u32 0]⟩ := by kernel_rfl
@[simp] theorem Tryz.ti36 : Tryz.prog.ti 36 = ⟨.struct [(21, 0, false), (3, 1, false), (34, 2, false), (34, 3, false)], 4, 24, .agg [.int .i32 0, .int .i64 0, .int .u32 0, .int .u32 0]⟩ := by kernel_rfl
@[simp] theorem Tryz.ti37 : Tryz.prog.ti 37 = ⟨.func, 1, 8, .nilF⟩ := by kernel_rfl
@[simp] theorem Tryz.ti38 : Tryz.prog.ti 38 = ⟨.func, 1, 8, .nilF⟩ := by kernel_rfl
@[simp] theorem Tryz.ti39 : Tryz.prog.ti 39 = ⟨.int .i64, 1, 8, .int .i64 0⟩ := by kernel_rfl
@[simp] theorem Tryz.ti41 : Tryz.prog.ti 41 = ⟨.func, 1, 8, .nilF⟩ := by kernel_rfl
@[simp] theorem Tryz.ti43 : Tryz.prog.ti 43 = ⟨.func, 1, 8, .nilF⟩ := by kernel_rfl
@[simp] theorem Tryz.ti45 : Tryz.prog.ti 45 = ⟨.func, 1, 8, .nilF⟩ := by kernel_rfl
@[simp] theorem Tryz.ti46 : Tryz.prog.ti 46 = ⟨.func, 1, 8, .nilF⟩ := by kernel_rfl
@[simp] theorem Tryz.ti47 : Tryz.prog.ti 47 = ⟨.func, 1, 8, .nilF⟩ := by kernel_rfl
@[simp] theorem Tryz.ti48 : Tryz.prog.ti 48 = ⟨.func, 1, 8, .nilF⟩ := by kernel_rfl
@[simp] theorem Tryz.ti49 : Tryz.prog.ti 49 = ⟨.func, 1, 8, .nilF⟩ := by kernel_rfl
@[simp] theorem Tryz.ti50 : Tryz.prog.ti 50 = ⟨.func, 1, 8, .nilF⟩ := by kernel_rfl
@[simp] theorem Tryz.ti51 : Tryz.prog.ti 51 = ⟨.func, 1, 8, .nilF⟩ := by kernel_rfl
@[simp] theorem Tryz.ti53 : Tryz.prog.ti 53 = ⟨.func, 1, 8, .nilF⟩ := by kernel_rfl
@[simp] theorem Tryz.ti54 : Tryz.prog.ti 54 = ⟨.slice 60, 1, 24, .nilS⟩ := by kernel_rfl
@[simp] theorem Tryz.ti56 : Tryz.prog.ti 56 = ⟨.func, 1, 8, .nilF⟩ := by kernel_rfl
@[simp] theorem Tryz.ti57 : Tryz.prog.ti 57 = ⟨.func, 1, 8, .nilF⟩ := by kernel_rfl
@[simp] theorem Tryz.ti58 : Tryz.prog.ti 58 = ⟨.func, 1, 8, .nilF⟩ := by kernel_rfl
@[simp] theorem Tryz.ti59 : Tryz.prog.ti 59 = ⟨.struct [(3, 0, false), (3, 1, false)], 2, 16, .agg [.int .i64 0, .int .i64 0]⟩ := by kernel_rfl
@[simp] theorem Tryz.ti60 : Tryz.prog.ti 60 = ⟨.struct [(3, 0, false), (3, 1, false)], 2, 16, .agg [.int .i64 0, .int .i64 0]⟩ := by kernel_rfl
@[simp] theorem Tryz.ti61 : Tryz.prog.ti 61 = ⟨.func, 1, 8, .nilF⟩ := by kernel_rfl
@[simp] theorem Tryz.ti62 : Tryz.prog.ti 62 = ⟨.func, 1, 8, .nilF⟩ := by kernel_rfl
@[simp] theorem Tryz.ti63 : Tryz.prog.ti 63 = ⟨.func, 1, 8, .nilF⟩ := by kernel_rfl
@[simp] theorem Tryz.ti65 : Tryz.prog.ti 65 = ⟨.func, 1, 8, .nilF⟩ := by kernel_rfl
@[simp] theorem Tryz.ti66 : Tryz.prog.ti 66 = ⟨.func, 1, 8, .nilF⟩ := by kernel_rfl
@[simp] theorem Tryz.ti67 : Tryz.prog.ti 67 = ⟨.func, 1, 8, .nilF⟩ := by kernel_rfl
@[simp] theorem Tryz.ti68 : Tryz.prog.ti 68 = ⟨.func, 1, 8, .nilF⟩ := by kernel_rfl
@[simp] theorem Tryz.ti69 : Tryz.prog.ti 69 = ⟨.func, 1, 8, .nilF⟩ := by kernel_rfl
@[simp] theorem Tryz.ti70 : Tryz.prog.ti 70 = ⟨.func, 1, 8, .nilF⟩ := by kernel_rfl
@[simp] theorem Tryz.ti72 : Tryz.prog.ti 72 = ⟨.func, 1, 8, .nilF⟩ := by kernel_rfl
@[simp] theorem Tryz.ti73 : Tryz.prog.ti 73 = ⟨.func, 1, 8, .nilF⟩ := by kernel_rfl
@[simp] theorem Tryz.ti74 : Tryz.prog.ti 74 = ⟨.func, 1, 8, .nilF⟩ := by kernel_rfl
@[simp] theorem Tryz.ti75 : Tryz.prog.ti 75 = ⟨.struct [(21, 0, false), (34, 1, false), (34, 2, false)], 3, 12, .agg [.int .i32 0, .int .u32 0, .int .u32 0]⟩ := by kernel_rfl
@[simp] theorem Tryz.ti76 : Tryz.prog.ti 76 = ⟨.struct [(21, 0, false), (34, 1, false), (34, 2, false)], 3, 12, .agg [.int .i32 0, .int .u32 0, .int .u32 0]⟩ := by kernel_rfl
@[simp] theorem Tryz.ti77 : Tryz.prog.ti 77 = ⟨.func, 1, 8, .nilF⟩ := by kernel_rfl
@[simp] theorem Tryz.ti78 : Tryz.prog.ti 78 = ⟨.func, 1, 8, .nilF⟩ := by kernel_rfl
@[simp] theorem Tryz.ti79 : Tryz.prog.ti 79 = ⟨.func, 1, 8, .nilF⟩ := by kernel_rfl
@[simp] theorem Tryz.ti80 : Tryz.prog.ti 80 = ⟨.func, 1, 8, .nilF⟩ := by kernel_rfl
@[simp] theorem Tryz.ti81 : Tryz.prog.ti 81 = ⟨.func, 1, 8, .nilF⟩ := by kernel_rfl
@[simp] theorem Tryz.ti82 : Tryz.prog.ti 82 = ⟨.func, 1, 8, .nilF⟩ := by kernel_rfl
@[simp] theorem Tryz.ti83 : Tryz.prog.ti 83 = ⟨.func, 1, 8, .nilF⟩ := by kernel_rfl
@[simp] theorem Tryz.ti84 : Tryz.prog.ti 84 = ⟨.func, 1, 8, .nilF⟩ := by kernel_rfl
@[simp] theorem Tryz.ti85 : Tryz.prog.ti 85 = ⟨.func, 1, 8, .nilF⟩ := by kernel_rfl
@[simp] theorem Tryz.ti86 : Tryz.prog.ti 86 = ⟨.pointer 88, 1, 8, .nilP⟩ := by kernel_rfl
@[simp] theorem Tryz.ti87 : Tryz.prog.ti 87 = ⟨.struct [(25, 0, false), (9, 2, false), (3, 3, false), (3, 4, false)], 5, 80, .agg [.nilS, .nilS, .str [], .int .i64 0, .int .i64 0]⟩ := by kernel_rfl
@[simp] theorem Tryz.ti88 : Tryz.prog.ti 88 = ⟨.struct [(25, 0, false), (9, 2, false), (3, 3, false), (3, 4, false)], 5, 80, .agg [.nilS, .nilS, .str [], .int .i64 0, .int .i64 0]⟩ := by kernel_rfl
@[simp] theorem Tryz.ti90 : Tryz.prog.ti 90 = ⟨.func, 1, 8, .nilF⟩ := by kernel_rfl
@[simp] theorem Tryz.ti92 : Tryz.prog.ti 92 = ⟨.func, 1, 8, .nilF⟩ := by kernel_rfl
@[simp] theorem Tryz.ti93 : Tryz.prog.ti 93 = ⟨.func, 1, 8, .nilF⟩ := by kernel_rfl
@[simp] theorem Tryz.ti94 : Tryz.prog.ti 94 = ⟨.func, 1, 8, .nilF⟩ := by kernel_rfl
@[simp] theorem Tryz.ti95 : Tryz.prog.ti 95 = ⟨.func, 1, 8, .nilF⟩ := by kernel_rfl
@[simp] theorem Tryz.ti97 : Tryz.prog.ti 97 = ⟨.func, 1, 8, .nilF⟩ := by kernel_rfl
@[simp] theorem Tryz.ti99 : Tryz.prog.ti 99 = ⟨.func, 1, 8, .nilF⟩ := by kernel_rfl
@[simp] theorem Tryz.ti100 : Tryz.prog.ti 100 = ⟨.func, 1, 8, .nilF⟩ := by kernel_rfl
@[simp] theorem Tryz.ti102 : Tryz.prog.ti 102 = ⟨.func, 1, 8, .nilF⟩ := by kernel_rfl
@[simp] theorem Tryz.ti103 : Tryz.prog.ti 103 = ⟨.func, 1, 8, .nilF⟩ := by kernel_rfl
@[simp] theorem Tryz.ti104 : Tryz.prog.ti 104 = ⟨.func, 1, 8, .nilF⟩ := by kernel_rfl
@[simp] theorem Tryz.ti105 : Tryz.prog.ti 105 = ⟨.func, 1, 8, .nilF⟩ := by kernel_rfl
@[simp] theorem Tryz.ti106 : Tryz.prog.ti 106 = ⟨.pointer 108, 1, 8, .nilP⟩ := by kernel_rfl
@[simp] theorem Tryz.ti107 : Tryz.prog.ti 107 = ⟨.struct [(25, 0, false), (9, 2, false), (3, 3, false), (3, 4, false)], 5, 80, .agg [.nilS, .nilS, .str [], .int .i64 0, .int .i64 0]⟩ := by kernel_rfl
@[simp] theorem Tryz.ti108 : Tryz.prog.ti 108 = ⟨.struct [(25, 0, false), (9, 2, false), (3, 3, false), (3, 4, false)], 5, 80, .agg [.nilS, .nilS, .str [], .int .i64 0, .int .i64 0]⟩ := by kernel_rfl
@[simp] theorem Tryz.ti110 : Tryz.prog.ti 110 = ⟨.func, 1, 8, .nilF⟩ := by kernel_rfl
@[simp] theorem Tryz.ti111 : Tryz.prog.ti 111 = ⟨.func, 1, 8, .nilF⟩ := by kernel_rfl
@[simp] theorem Tryz.ti112 : Tryz.prog.ti 112 = ⟨.func, 1, 8, .nilF⟩ := by kernel_rfl
@[simp] theorem Tryz.ti113 : Tryz.prog.ti 113 = ⟨.func, 1, 8, .nilF⟩ := by kernel_rfl
@[simp] theorem Tryz.ti114 : Tryz.prog.ti 114 = ⟨.func, 1, 8, .nilF⟩ := by kernel_rfl
@[simp] theorem Tryz.ti115 : Tryz.prog.ti 115 = ⟨.func, 1, 8, .nilF⟩ := by kernel_rfl
@[simp] theorem Tryz.ti116 : Tryz.prog.ti 116 = ⟨.func, 1, 8, .nilF⟩ := by kernel_rfl
@[simp] theorem Tryz.ti117 : Tryz.prog.ti 117 = ⟨.func, 1, 8, .nilF⟩ := by kernel_rfl
@[simp] theorem Tryz.ti118 : Tryz.prog.ti 118 = ⟨.func, 1, 8, .nilF⟩ := by kernel_rfl
@[simp] theorem Tryz.ti119 : Tryz.prog.ti 119 = ⟨.func, 1, 8, .nilF⟩ := by kernel_rfl
@[simp] theorem Tryz.ti120 : Tryz.prog.ti 120 = ⟨.func, 1, 8, .nilF⟩ := by kernel_rfl
@[simp] theorem Tryz.ti121 : Tryz.prog.ti 121 = ⟨.slice 3, 1, 24, .nilS⟩ := by kernel_rfl
@[simp] theorem Tryz.ti122 : Tryz.prog.ti 122 = ⟨.struct [(5, 0, false), (21, 1, false), (34, 2, false), (34, 3, false), (121, 4, false)], 5, 40, .agg [.int .u8 0, .int .i32 0, .int .u32 0, .int .u32 0, .nilS]⟩ := by kernel_rfl
@[simp] theorem Tryz.ti123 : Tryz.prog.ti 123 = ⟨.struct [(5, 0, false), (21, 1, false), (34, 2, false), (34, 3, false), (121, 4, false)], 5, 40, .agg [.int .u8 0, .int .i32 0, .int .u32 0, .int .u32 0, .nilS]⟩ := by kernel_rfl
@[simp] theorem Tryz.ti124 : Tryz.prog.ti 124 = ⟨.func, 1, 8, .nilF⟩ := by kernel_rfl
@[simp] theorem Tryz.ti125 : Tryz.prog.ti 125 = ⟨.func, 1, 8, .nilF⟩ := by kernel_rfl
@[simp] theorem Tryz.ti126 : Tryz.prog.ti 126 = ⟨.slice 33, 1, 24, .nilS⟩ := by kernel_rfl
@[simp] theorem Tryz.ti128 : Tryz.prog.ti 128 = ⟨.func, 1, 8, .nilF⟩ := by kernel_rfl
@[simp] theorem Tryz.ti129 : Tryz.prog.ti 129 = ⟨.func, 1, 8, .nilF⟩ := by kernel_rfl
@[simp] theorem Tryz.ti130 : Tryz.prog.ti 130 = ⟨.map 21 3, 1, 8, .nilM⟩ := by kernel_rfl
@[simp] theorem Tryz.ti131 : Tryz.prog.ti 131 = ⟨.struct [(21, 0, false), (34, 1, false), (34, 2, false)], 3, 12, .agg [.int .i32 0, .int .u32 0, .int .u32 0]⟩ := by kernel_rfl
@[simp] theorem Tryz.ti132 : Tryz.prog.ti 132 = ⟨.func, 1, 8, .nilF⟩ := by kernel_rfl
@[simp] theorem Tryz.ti133 : Tryz.prog.ti 133 = ⟨.func, 1, 8, .nilF⟩ := by kernel_rfl
@[simp] theorem Tryz.ti134 : Tryz.prog.ti 134 = ⟨.func, 1, 8, .nilF⟩ := by kernel_rfl
@[simp] theorem Tryz.ti135 : Tryz.prog.ti 135 = ⟨.func, 1, 8, .nilF⟩ := by kernel_rfl
@[simp] theorem Tryz.ti136 : Tryz.prog.ti 136 = ⟨.func, 1, 8, .nilF⟩ := by kernel_rfl
@[simp] theorem Tryz.ti137 : Tryz.prog.ti 137 = ⟨.pointer 199, 1, 8, .nilP⟩ := by kernel_rfl
@[simp] theorem Tryz.ti138 : Tryz.prog.ti 138 = ⟨.func, 1, 8, .nilF⟩ := by kernel_rfl
@[simp] theorem Tryz.ti139 : Tryz.prog.ti 139 = ⟨.func, 1, 8, .nilF⟩ := by kernel_rfl
@[simp] theorem Tryz.ti140 : Tryz.prog.ti 140 = ⟨.func, 1, 8, .nilF⟩ := by kernel_rfl
@[simp] theorem Tryz.ti141 : Tryz.prog.ti 141 = ⟨.func, 1, 8, .nilF⟩ := by kernel_rfl
@[simp] theorem Tryz.ti143 : Tryz.prog.ti 143 = ⟨.func, 1, 8, .nilF⟩ := by kernel_rfl
@[simp] theorem Tryz.ti145 : Tryz.prog.ti 145 = ⟨.func, 1, 8, .nilF⟩ := by kernel_rfl
@[simp] theorem Tryz.ti146 : Tryz.prog.ti 146 = ⟨.func, 1, 8, .nilF⟩ := by kernel_rfl
@[simp] theorem Tryz.ti147 : Tryz.prog.ti 147 = ⟨.func, 1, 8, .nilF⟩ := by kernel_rfl
@[simp] theorem Tryz.ti149 : Tryz.prog.ti 149 = ⟨.func, 1, 8, .nilF⟩ := by kernel_rfl
@[simp] theorem Tryz.ti150 : Tryz.prog.ti 150 = ⟨.func, 1, 8, .nilF⟩ := by kernel_rfl
@[simp] theorem Tryz.ti151 : Tryz.prog.ti 151 = ⟨.pointer 154, 1, 8, .nilP⟩ := by kernel_rfl
@[simp] theorem Tryz.ti152 : Tryz.prog.ti 152 = ⟨.slice 5, 1, 24, .nilS⟩ := by kernel_rfl
@[simp] theorem Tryz.ti153 : Tryz.prog.ti 153 = ⟨.struct [(151, 0, false), (152, 1, false)], 2, 32, .agg [.nilP, .nilS]⟩ := by kernel_rfl
@[simp] theorem Tryz.ti154 : Tryz.prog.ti 154 = ⟨.struct [(151, 0, false), (152, 1, false)], 2, 32, .agg [.nilP, .nilS]⟩ := by kernel_rfl
@[simp] theorem Tryz.ti155 : Tryz.prog.ti 155 = ⟨.iface false, 1, 16, .nilI⟩ := by kernel_rfl
@[simp] theorem Tryz.ti156 : Tryz.prog.ti 156 = ⟨.iface false, 1, 16, .nilI⟩ := by kernel_rfl
@[simp] theorem Tryz.ti157 : Tryz.prog.ti 157 = ⟨.func, 1, 8, .nilF⟩ := by kernel_rfl
@[simp] theorem Tryz.ti159 : Tryz.prog.ti 159 = ⟨.func, 1, 8, .nilF⟩ := by kernel_rfl
@[simp] theorem Tryz.ti160 : Tryz.prog.ti 160 = ⟨.func, 1, 8, .nilF⟩ := by kernel_rfl
@[simp] theorem Tryz.ti161 : Tryz.prog.ti 161 = ⟨.func, 1, 8, .nilF⟩ := by kernel_rfl
@[simp] theorem Tryz.ti162 : Tryz.prog.ti 162 = ⟨.func, 1, 8, .nilF⟩ := by kernel_rfl
@[simp] theorem Tryz.ti163 : Tryz.prog.ti 163 = ⟨.func, 1, 8, .nilF⟩ := by kernel_rfl
@[simp] theorem Tryz.ti164 : Tryz.prog.ti 164 = ⟨.map 9 4, 1, 8, .nilM⟩ := by kernel_rfl
@[simp] theorem Tryz.ti165 : Tryz.prog.ti 165 = ⟨.map 21 4, 1, 8, .nilM⟩ := by kernel_rfl
@[simp] theorem Tryz.ti166 : Tryz.prog.ti 166 = ⟨.func, 1, 8, .nilF⟩ := by kernel_rfl
@[simp] theorem Tryz.ti167 : Tryz.prog.ti 167 = ⟨.func, 1, 8, .nilF⟩ := by kernel_rfl
@[simp] theorem Tryz.ti168 : Tryz.prog.ti 168 = ⟨.func, 1, 8, .nilF⟩ := by kernel_rfl
@[simp] theorem Tryz.ti170 : Tryz.prog.ti 170 = ⟨.func, 1, 8, .nilF⟩ := by kernel_rfl
@[simp] theorem Tryz.ti171 : Tryz.prog.ti 171 = ⟨.func, 1, 8, .nilF⟩ := by kernel_rfl
@[simp] theorem Tryz.ti173 : Tryz.prog.ti 173 = ⟨.func, 1, 8, .nilF⟩ := by kernel_rfl
@[simp] theorem Tryz.ti174 : Tryz.prog.ti 174 = ⟨.func, 1, 8, .nilF⟩ := by kernel_rfl
@[simp] theorem Tryz.ti175 : Tryz.prog.ti 175 = ⟨.func, 1, 8, .nilF⟩ := by kernel_rfl
@[simp] theorem Tryz.ti176 : Tryz.prog.ti 176 = ⟨.func, 1, 8, .nilF⟩ := by kernel_rfl
@[simp] theorem Tryz.ti179 : Tryz.prog.ti 179 = ⟨.func, 1, 8, .nilF⟩ := by kernel_rfl
@[simp] theorem Tryz.ti180 : Tryz.prog.ti 180 = ⟨.func, 1, 8, .nilF⟩ := by kernel_rfl
@[simp] theorem Tryz.ti181 : Tryz.prog.ti 181 = ⟨.func, 1, 8, .nilF⟩ := by kernel_rfl
@[simp] theorem Tryz.ti182 : Tryz.prog.ti 182 = ⟨.func, 1, 8, .nilF⟩ := by kernel_rfl
@[simp] theorem Tryz.ti183 : Tryz.prog.ti 183 = ⟨.func, 1, 8, .nilF⟩ := by kernel_rfl
@[simp] theorem Tryz.ti184 : Tryz.prog.ti 184 = ⟨.func, 1, 8, .nilF⟩ := by kernel_rfl
@[simp] theorem Tryz.ti185 : Tryz.prog.ti 185 = ⟨.func, 1, 8, .nilF⟩ := by kernel_rfl
@[simp] theorem Tryz.ti186 : Tryz.prog.ti 186 = ⟨.func, 1, 8, .nilF⟩ := by kernel_rfl
@[simp] theorem Tryz.ti187 : Tryz.prog.ti 187 = ⟨.func, 1, 8, .nilF⟩ := by kernel_rfl
@[simp] theorem Tryz.ti188 : Tryz.prog.ti 188 = ⟨.func, 1, 8, .nilF⟩ := by kernel_rfl
@[simp] theorem Tryz.ti189 : Tryz.prog.ti 189 = ⟨.func, 1, 8, .nilF⟩ := by kernel_rfl
@[simp] theorem Tryz.ti190 : Tryz.prog.ti 190 = ⟨.func, 1, 8, .nilF⟩ := by kernel_rfl
@[simp] theorem Tryz.ti191 : Tryz.prog.ti 191 = ⟨.func, 1, 8, .nilF⟩ := by kernel_rfl
@[simp] theorem Tryz.ti192 : Tryz.prog.ti 192 = ⟨.func, 1, 8, .nilF⟩ := by kernel_rfl
@[simp] theorem Tryz.ti193 : Tryz.prog.ti 193 = ⟨.func, 1, 8, .nilF⟩ := by kernel_rfl
@[simp] theorem Tryz.ti194 : Tryz.prog.ti 194 = ⟨.int .u64, 1, 8, .int .u64 0⟩ := by kernel_rfl
@[simp] theorem Tryz.ti195 : Tryz.prog.ti 195 = ⟨.func, 1, 8, .nilF⟩ := by kernel_rfl
@[simp] theorem Tryz.ti196 : Tryz.prog.ti 196 = ⟨.map 201 165, 1, 8, .nilM⟩ := by kernel_rfl
@[simp] theorem Tryz.ti197 : Tryz.prog.ti 197 = ⟨.func, 1, 8, .nilF⟩ := by kernel_rfl
@[simp] theorem Tryz.ti198 : Tryz.prog.ti 198 = ⟨.struct [(32, 0, false), (196, 7, false), (197, 8, false)], 9, 136, .agg [.str [], .nilS, .nilS, .nilS, .nilS, .int .u8 0, .bool false, .nilM, .nilF]⟩ := by kernel_rfl
@[simp] theorem Tryz.ti199 : Tryz.prog.ti 199 = ⟨.struct [(32, 0, false), (196, 7, false), (197, 8, false)], 9, 136, .agg [.str [], .nilS, .nilS, .nilS, .nilS, .int .u8 0, .bool false, .nilM, .nilF]⟩ := by kernel_rfl
@[simp] theorem Tryz.ti200 : Tryz.prog.ti 200 = ⟨.func, 1, 8, .nilF⟩ := by kernel_rfl
@[simp] theorem Tryz.ti201 : Tryz.prog.ti 201 = ⟨.array 2 34, 2, 8, .agg [.int .u32 0, .int .u32 0]⟩ := by kernel_rfl
@[simp] theorem Tryz.ti202 : Tryz.prog.ti 202 = ⟨.func, 1, 8, .nilF⟩ := by kernel_rfl
@[simp] theorem Tryz.ti203 : Tryz.prog.ti 203 = ⟨.slice 30, 1, 24, .nilS⟩ := by kernel_rfl
@[simp] theorem Tryz.ti204 : Tryz.prog.ti 204 = ⟨.func, 1, 8, .nilF⟩ := by kernel_rfl
@[simp] theorem Tryz.ti205 : Tryz.prog.ti 205 = ⟨.slice 4, 1, 24, .nilS⟩ := by kernel_rfl
@[simp] theorem Tryz.ti206 : Tryz.prog.ti 206 = ⟨.func, 1, 8, .nilF⟩ := by kernel_rfl
@[simp] theorem Tryz.ti207 : Tryz.prog.ti 207 = ⟨.func, 1, 8, .nilF⟩ := by kernel_rfl
@[simp] theorem Tryz.ti208 : Tryz.prog.ti 208 = ⟨.func, 1, 8, .nilF⟩ := by kernel_rfl
@[simp] theorem Tryz.ti209 : Tryz.prog.ti 209 = ⟨.func, 1, 8, .nilF⟩ := by kernel_rfl
@[simp] theorem Tryz.ti210 : Tryz.prog.ti 210 = ⟨.func, 1, 8, .nilF⟩ := by kernel_rfl
@[simp] theorem Tryz.ti211 : Tryz.prog.ti 211 = ⟨.slice 215, 1, 24, .nilS⟩ := by kernel_rfl
@[simp] theorem Tryz.ti213 : Tryz.prog.ti 213 = ⟨.func, 1, 8, .nilF⟩ := by kernel_rfl
@[simp] theorem Tryz.ti214 : Tryz.prog.ti 214 = ⟨.struct [(21, 0, false), (3, 1, false), (3, 2, false), (4, 3, false)], 4, 32, .agg [.int .i32 0, .int .i64 0, .int .i64 0, .bool false]⟩ := by kernel_rfl
@[simp] theorem Tryz.ti215 : Tryz.prog.ti 215 = ⟨.struct [(21, 0, false), (3, 1, false), (3, 2, false), (4, 3, false)], 4, 32, .agg [.int .i32 0, .int .i64 0, .int .i64 0, .bool false]⟩ := by kernel_rfl
@[simp] theorem Tryz.ti216 : Tryz.prog.ti 216 = ⟨.func, 1, 8, .nilF⟩ := by kernel_rfl
@[simp] theorem Tryz.ti217 : Tryz.prog.ti 217 = ⟨.pointer 273, 1, 8, .nilP⟩ := by kernel_rfl
@[simp] theorem Tryz.ti219 : Tryz.prog.ti 219 = ⟨.func, 1, 8, .nilF⟩ := by kernel_rfl
@[simp] theorem Tryz.ti220 : Tryz.prog.ti 220 = ⟨.func, 1, 8, .nilF⟩ := by kernel_rfl
@[simp] theorem Tryz.ti221 : Tryz.prog.ti 221 = ⟨.func, 1, 8, .nilF⟩ := by kernel_rfl
@[simp] theorem Tryz.ti222 : Tryz.prog.ti 222 = ⟨.func, 1, 8, .nilF⟩ := by kernel_rfl
@[simp] theorem Tryz.ti223 : Tryz.prog.ti 223 = ⟨.func, 1, 8, .nilF⟩ := by kernel_rfl
@[simp] theorem Tryz.ti224 : Tryz.prog.ti 224 = ⟨.pointer 5, 1, 8, .nilP⟩ := by kernel_rfl
@[simp] theorem Tryz.ti225 : Tryz.prog.ti 225 = ⟨.func, 1, 8, .nilF⟩ := by kernel_rfl
@[simp] theorem Tryz.ti226 : Tryz.prog.ti 226 = ⟨.array 256 4, 256, 256, .agg [.bool false, .bool false, .bool false, .bool false, .bool false, .bool false, .bool false, .bool false, .bool false, .bool false, .bool false, .bool false, .bool false, .bool false, .bool false, .bool false, .bool false, .bool false, .bool false, .bool false, .bool false, .bool false, .bool false, .bool false, .bool false, .bool false, .bool false, .bool false, .bool false, .bool false, .bool false, .bool false, .bool false, .bool false, .bool false, .bool false, .bool false, .bool false, .bool false, .bool false, .bool false, .bool false, .bool false, .bool false, .bool false, .bool false, .bool false, .bool false, .bool false, .bool false, .bool false, .bool false, .bool false, .bool false, .bool false, .bool false, .bool false, .bool false, .bool false, .bool false, .bool false, .bool false, .bool false, .bool false, .bool false, .bool false, .bool false, .bool false, .bool false, .bool false, .bool false, .bool false, .bool false, .bool false, .bool false, .bool false, .bool false, .bool false, .bool false, .bool false, .bool false, .bool false, .bool false, .bool false, .bool false, .bool false, .bool false, .bool false, .bool false, .bool false, .bool false, .bool false, .bool false, .bool false, .bool false, .bool false, .bool false, .bool false, .bool false, .bool false, .bool false, .bool false, .bool false, .bool false, .bool false, .bool false, .bool false, .bool false, .bool false, .bool false, .bool false, .bool false, .bool false, .bool false, .bool false, .bool false, .bool false, .bool false, .bool false, .bool false, .bool false, .bool false, .bool false, .bool false, .bool false, .bool false, .bool false, .bool false, .bool false, .bool false, .bool false, .bool false, .bool false, .bool false, .bool false, .bool false, .bool false, .bool false, .bool false, .bool false, .bool false, .bool false, .bool false, .bool false, .bool false, .bool false, .bool false, .bool false, .bool false, .bool false, .bool false, .bool false, .bool false, .bool false, .bool false, .bool false, .bool false, .bool false, .bool false, .bool false, .bool false, .bool false, .bool false, .bool false, .bool false, .bool false, .bool false, .bool false, .bool false, .bool false, .bool false, .bool false, .bool false, .bool false, .bool false, .bool false, .bool false, .bool false, .bool false, .bool false, .bool false, .bool false, .bool false, .bool false, .bool false, .bool false, .bool false, .bool false, .bool false, .bool false, .bool false, .bool false, .bool false, .bool false, .bool false, .bool false, .bool false, .bool false, .bool false, .bool false, .bool false, .bool false, .bool false, .bool false, .bool false, .bool false, .bool false, .bool false, .bool false, .bool false, .bool false, .bool false, .bool false, .bool false, .bool false, .bool false, .bool false, .bool false, .bool false, .bool false, .bool false, .bool false, .bool false, .bool false, .bool false, .bool false, .bool false, .bool false, .bool false, .bool false, .bool false, .bool false, .bool false, .bool false, .bool false, .bool false, .bool false, .bool false, .bool false, .bool false, .bool false, .bool false, .bool false, .bool false, .bool false, .bool false, .bool false, .bool false, .bool false, .bool false, .bool false, .bool false, .bool false, .bool false, .bool false, .bool false]⟩ := by kernel_rfl
@[simp] theorem Tryz.ti227 : Tryz.prog.ti 227 = ⟨.array 256 4, 256, 256, .agg [.bool false, .bool false, .bool false, .bool false, .bool false, .bool false, .bool false, .bool false, .bool false, .bool false, .bool false, .bool false, .bool false, .bool false, .bool false, .bool false, .bool false, .bool false, .bool false, .bool false, .bool false, .bool false, .bool false, .bool false, .bool false, .bool false, .bool false, .bool false, .bool false, .bool false, .bool false, .bool false, .bool false, .bool false, .bool false, .bool false, .bool false, .bool false, .bool false, .bool false, .bool false, .bool false, .bool false, .bool false, .bool false, .bool false, .bool false, .bool false, .bool false, .bool false, .bool false, .bool false, .bool false, .bool false, .bool false, .bool false, .bool false, .bool false, .bool false, .bool false, .bool false, .bool false, .bool false, .bool false, .bool false, .bool false, .bool false, .bool false, .bool false, .bool false, .bool false, .bool false, .bool false, .bool false, .bool false, .bool false, .bool false, .bool false, .bool false, .bool false, .bool false, .bool false, .bool false, .bool false, .bool false, .bool false, .bool false, .bool false, .bool false, .bool false, .bool false, .bool false, .bool false, .bool false, .bool false, .bool false, .bool false, .bool false, .bool false, .bool false, .bool false, .bool false, .bool false, .bool false, .bool false, .bool false, .bool false, .bool false, .bool false, .bool false, .bool false, .bool false, .bool false, .bool false, .bool false, .bool false, .bool false, .bool false, .bool false, .bool false, .bool false, .bool false, .bool false, .bool false, .bool false, .bool false, .bool false, .bool false, .bool false, .bool false, .bool false, .bool false, .bool false, .bool false, .bool false, .bool false, .bool false, .bool false, .bool false, .bool false, .bool false, .bool false, .bool false, .bool false, .bool false, .bool false, .bool false, .bool false, .bool false, .bool false, .bool false, .bool false, .bool false, .bool false, .bool false, .bool false, .bool false, .bool false, .bool false, .bool false, .bool false, .bool false, .bool false, .bool false, .bool false, .bool false, .bool false, .bool false, .bool false, .bool false, .bool false, .bool false, .bool false, .bool false, .bool false, .bool false, .bool false, .bool false, .bool false, .bool false, .bool false, .bool false, .bool false, .bool false, .bool false, .bool false, .bool false, .bool false, .bool false, .bool false, .bool false, .bool false, .bool false, .bool false, .bool false, .bool false, .bool false, .bool false, .bool false, .bool false, .bool false, .bool false, .bool false, .bool false, .bool false, .bool false, .bool false, .bool false, .bool false, .bool false, .bool false, .bool false, .bool false, .bool false, .bool false, .bool false, .bool false, .bool false, .bool false, .bool false, .bool false, .bool false, .bool false, .bool false, .bool false, .bool false, .bool false, .bool false, .bool false, .bool false, .bool false, .bool false, .bool false, .bool false, .bool false, .bool false, .bool false, .bool false, .bool false, .bool false, .bool false, .bool false, .bool false, .bool false, .bool false, .bool false, .bool false, .bool false, .bool false, .bool false, .bool false, .bool false, .bool false, .bool false, .bool false, .bool false]⟩ := by kernel_rfl
@[simp] theorem Tryz.ti229 : Tryz.prog.ti 229 = ⟨.func, 1, 8, .nilF⟩ := by kernel_rfl
@[simp] theorem Tryz.ti230 : Tryz.prog.ti 230 = ⟨.func, 1, 8, .nilF⟩ := by kernel_rfl
@[simp] theorem Tryz.ti231 : Tryz.prog.ti 231 = ⟨.pointer 227, 1, 8, .nilP⟩ := by kernel_rfl
@[simp] theorem Tryz.ti234 : Tryz.prog.ti 234 = ⟨.func, 1, 8, .nilF⟩ := by kernel_rfl
@[simp] theorem Tryz.ti235 : Tryz.prog.ti 235 = ⟨.func, 1, 8, .nilF⟩ := by kernel_rfl
@[simp] theorem Tryz.ti236 : Tryz.prog.ti 236 = ⟨.func, 1, 8, .nilF⟩ := by kernel_rfl
@[simp] theorem Tryz.ti238 : Tryz.prog.ti 238 = ⟨.func, 1, 8, .nilF⟩ := by kernel_rfl
@[simp] theorem Tryz.ti239 : Tryz.prog.ti 239 = ⟨.func, 1, 8, .nilF⟩ := by kernel_rfl
@[simp] theorem Tryz.ti240 : Tryz.prog.ti 240 = ⟨.func, 1, 8, .nilF⟩ := by kernel_rfl
@[simp] theorem Tryz.ti241 : Tryz.prog.ti 241 = ⟨.func, 1, 8, .nilF⟩ := by kernel_rfl
@[simp] theorem Tryz.ti242 : Tryz.prog.ti 242 = ⟨.slice 164, 1, 24, .nilS⟩ := by kernel_rfl
@[simp] theorem Tryz.ti243 : Tryz.prog.ti 243 = ⟨.func, 1, 8, .nilF⟩ := by kernel_rfl
@[simp] theorem Tryz.ti244 : Tryz.prog.ti 244 = ⟨.func, 1, 8, .nilF⟩ := by kernel_rfl
@[simp] theorem Tryz.ti245 : Tryz.prog.ti 245 = ⟨.func, 1, 8, .nilF⟩ := by kernel_rfl
@[simp] theorem Tryz.ti246 : Tryz.prog.ti 246 = ⟨.func, 1, 8, .nilF⟩ := by kernel_rfl
@[simp] theorem Tryz.ti247 : Tryz.prog.ti 247 = ⟨.func, 1, 8, .nilF⟩ := by kernel_rfl
@[simp] theorem Tryz.ti248 : Tryz.prog.ti 248 = ⟨.slice 126, 1, 24, .nilS⟩ := by kernel_rfl
@[simp] theorem Tryz.ti249 : Tryz.prog.ti 249 = ⟨.func, 1, 8, .nilF⟩ := by kernel_rfl
@[simp] theorem Tryz.ti250 : Tryz.prog.ti 250 = ⟨.func, 1, 8, .nilF⟩ := by kernel_rfl
@[simp] theorem Tryz.ti251 : Tryz.prog.ti 251 = ⟨.func, 1, 8, .nilF⟩ := by kernel_rfl
@[simp] theorem Tryz.ti252 : Tryz.prog.ti 252 = ⟨.func, 1, 8, .nilF⟩ := by kernel_rfl
@[simp] theorem Tryz.ti253 : Tryz.prog.ti 253 = ⟨.int .i64, 1, 8, .int .i64 0⟩ := by kernel_rfl
@[simp] theorem Tryz.ti255 : Tryz.prog.ti 255 = ⟨.func, 1, 8, .nilF⟩ := by kernel_rfl
@[simp] theorem Tryz.ti256 : Tryz.prog.ti 256 = ⟨.func, 1, 8, .nilF⟩ := by kernel_rfl
@[simp] theorem Tryz.ti257 : Tryz.prog.ti 257 = ⟨.func, 1, 8, .nilF⟩ := by kernel_rfl
@[simp] theorem Tryz.ti258 : Tryz.prog.ti 258 = ⟨.func, 1, 8, .nilF⟩ := by kernel_rfl
@[simp] theorem Tryz.ti259 : Tryz.prog.ti 259 = ⟨.func, 1, 8, .nilF⟩ := by kernel_rfl
@[simp] theorem Tryz.ti260 : Tryz.prog.ti 260 = ⟨.int .u64, 1, 8, .int .u64 0⟩ := by kernel_rfl
@[simp] theorem Tryz.ti261 : Tryz.prog.ti 261 = ⟨.func, 1, 8, .nilF⟩ := by kernel_rfl
@[simp] theorem Tryz.ti262 : Tryz.prog.ti 262 = ⟨.func, 1, 8, .nilF⟩ := by kernel_rfl
@[simp] theorem Tryz.ti263 : Tryz.prog.ti 263 = ⟨.func, 1, 8, .nilF⟩ := by kernel_rfl
@[simp] theorem Tryz.ti264 : Tryz.prog.ti 264 = ⟨.func, 1, 8, .nilF⟩ := by kernel_rfl
@[simp] theorem Tryz.ti265 : Tryz.prog.ti 265 = ⟨.func, 1, 8, .nilF⟩ := by kernel_rfl
@[simp] theorem Tryz.ti266 : Tryz.prog.ti 266 = ⟨.func, 1, 8, .nilF⟩ := by kernel_rfl
@[simp] theorem Tryz.ti267 : Tryz.prog.ti 267 = ⟨.func, 1, 8, .nilF⟩ := by kernel_rfl
@[simp] theorem Tryz.ti268 : Tryz.prog.ti 268 = ⟨.func, 1, 8, .nilF⟩ := by kernel_rfl
@[simp] theorem Tryz.ti269 : Tryz.prog.ti 269 = ⟨.func, 1, 8, .nilF⟩ := by kernel_rfl
@[simp] theorem Tryz.ti270 : Tryz.prog.ti 270 = ⟨.func, 1, 8, .nilF⟩ := by kernel_rfl
@[simp] theorem Tryz.ti271 : Tryz.prog.ti 271 = ⟨.map 277 121, 1, 8, .nilM⟩ := by kernel_rfl
@[simp] theorem Tryz.ti272 : Tryz.prog.ti 272 = ⟨.struct [(28, 0, false), (23, 1, false), (271, 2, false)], 3, 56, .agg [.nilS, .nilS, .nilM]⟩ := by kernel_rfl
@[simp] theorem Tryz.ti273 : Tryz.prog.ti 273 = ⟨.struct [(28, 0, false), (23, 1, false), (271, 2, false)], 3, 56, .agg [.nilS, .nilS, .nilM]⟩ := by kernel_rfl
@[simp] theorem Tryz.ti274 : Tryz.prog.ti 274 = ⟨.map 21 131, 1, 8, .nilM⟩ := by kernel_rfl
@[simp] theorem Tryz.ti275 : Tryz.prog.ti 275 = ⟨.func, 1, 8, .nilF⟩ := by kernel_rfl
@[simp] theorem Tryz.ti276 : Tryz.prog.ti 276 = ⟨.struct [(3, 0, false), (3, 1, false)], 2, 16, .agg [.int .i64 0, .int .i64 0]⟩ := by kernel_rfl
@[simp] theorem Tryz.ti277 : Tryz.prog.ti 277 = ⟨.struct [(3, 0, false), (3, 1, false)], 2, 16, .agg [.int .i64 0, .int .i64 0]⟩ := by kernel_rfl
@[simp] theorem Tryz.ti279 : Tryz.prog.ti 279 = ⟨.func, 1, 8, .nilF⟩ := by kernel_rfl
@[simp] theorem Tryz.ti281 : Tryz.prog.ti 281 = ⟨.func, 1, 8, .nilF⟩ := by kernel_rfl
@[simp] theorem Tryz.ti282 : Tryz.prog.ti 282 = ⟨.func, 1, 8, .nilF⟩ := by kernel_rfl
@[simp] theorem Tryz.ti283 : Tryz.prog.ti 283 = ⟨.func, 1, 8, .nilF⟩ := by kernel_rfl
@[simp] theorem Tryz.ti284 : Tryz.prog.ti 284 = ⟨.func, 1, 8, .nilF⟩ := by kernel_rfl
@[simp] theorem Tryz.ti285 : Tryz.prog.ti 285 = ⟨.func, 1, 8, .nilF⟩ := by kernel_rfl
@[simp] theorem Tryz.ti286 : Tryz.prog.ti 286 = ⟨.array 256 5, 256, 256, .agg [.int .u8 0, .int .u8 0, .int .u8 0, .int .u8 0, .int .u8 0, .int .u8 0, .int .u8 0, .int .u8 0, .int .u8 0, .int .u8 0, .int .u8 0, .int .u8 0, .int .u8 0, .int .u8 0, .int .u8 0, .int .u8 0, .int .u8 0, .int .u8 0, .int .u8 0, .int .u8 0, .int .u8 0, .int .u8 0, .int .u8 0, .int .u8 0, .int .u8 0, .int .u8 0, .int .u8 0, .int .u8 0, .int .u8 0, .int .u8 0, .int .u8 0, .int .u8 0, .int .u8 0, .int .u8 0, .int .u8 0, .int .u8 0, .int .u8 0, .int .u8 0, .int .u8 0, .int .u8 0, .int .u8 0, .int .u8 0, .int .u8 0, .int .u8 0, .int .u8 0, .int .u8 0, .int .u8 0, .int .u8 0, .int .u8 0, .int .u8 0, .int .u8 0, .int .u8 0, .int .u8 0, .int .u8 0, .int .u8 0, .int .u8 0, .int .u8 0, .int .u8 0, .int .u8 0, .int .u8 0, .int .u8 0, .int .u8 0, .int .u8 0, .int .u8 0, .int .u8 0, .int .u8 0, .int .u8 0, .int .u8 0, .int .u8 0, .int .u8 0, .int .u8 0, .int .u8 0, .int .u8 0, .int .u8 0, .int .u8 0, .int .u8 0, .int .u8 0, .int .u8 0, .int .u8 0, .int .u8 0, .int .u8 0, .int .u8 0, .int .u8 0, .int .u8 0, .int .u8 0, .int .u8 0, .int .u8 0, .int .u8 0, .int .u8 0, .int .u8 0, .int .u8 0, .int .u8 0, .int .u8 0, .int .u8 0, .int .u8 0, .int .u8 0, .int .u8 0, .int .u8 0, .int .u8 0, .int .u8 0, .int .u8 0, .int .u8 0, .int .u8 0, .int .u8 0, .int .u8 0, .int .u8 0, .int .u8 0, .int .u8 0, .int .u8 0, .int .u8 0, .int .u8 0, .int .u8 0, .int .u8 0, .int .u8 0, .int .u8 0, .int .u8 0, .int .u8 0, .int .u8 0, .int .u8 0, .int .u8 0, .int .u8 0, .int .u8 0, .int .u8 0, .int .u8 0, .int .u8 0, .int .u8 0, .int .u8 0, .int .u8 0, .int .u8 0, .int .u8 0, .int .u8 0, .int .u8 0, .int .u8 0, .int .u8 0, .int .u8 0, .int .u8 0, .int .u8 0, .int .u8 0, .int .u8 0, .int .u8 0, .int .u8 0, .int .u8 0, .int .u8 0, .int .u8 0, .int .u8 0, .int .u8 0, .int .u8 0, .int .u8 0, .int .u8 0, .int .u8 0, .int .u8 0, .int .u8 0, .int .u8 0, .int .u8 0, .int .u8 0, .int .u8 0, .int .u8 0, .int .u8 0, .int .u8 0, .int .u8 0, .int .u8 0, .int .u8 0, .int .u8 0, .int .u8 0, .int .u8 0, .int .u8 0, .int .u8 0, .int .u8 0, .int .u8 0, .int .u8 0, .int .u8 0, .int .u8 0, .int .u8 0, .int .u8 0, .int .u8 0, .int .u8 0, .int .u8 0, .int .u8 0, .int .u8 0, .int .u8 0, .int .u8 0, .int .u8 0, .int .u8 0, .int .u8 0, .int .u8 0, .int .u8 0, .int .u8 0, .int .u8 0, .int .u8 0, .int .u8 0, .int .u8 0, .int .u8 0, .int .u8 0, .int .u8 0, .int .u8 0, .int .u8 0, .int .u8 0, .int .u8 0, .int .u8 0, .int .u8 0, .int .u8 0, .int .u8 0, .int .u8 0, .int .u8 0, .int .u8 0, .int .u8 0, .int .u8 0, .int .u8 0, .int .u8 0, .int .u8 0, .int .u8 0, .int .u8 0, .int .u8 0, .int .u8 0, .int .u8 0, .int .u8 0, .int .u8 0, .int .u8 0, .int .u8 0, .int .u8 0, .int .u8 0, .int .u8 0, .int .u8 0, .int .u8 0, .int .u8 0, .int .u8 0, .int .u8 0, .int .u8 0, .int .u8 0, .int .u8 0, .int .u8 0, .int .u8 0, .int .u8 0, .int .u8 0, .int .u8 0, .int .u8 0, .int .u8 0, .int .u8 0, .int .u8 0, .int .u8 0, .int .u8 0, .int .u8 0, .int .u8 0, .int .u8 0, .int .u8 0, .int .u8 0, .int .u8 0, .int .u8 0, .int .u8 0, .int .u8 0, .int .u8 0, .int .u8 0, .int .u8 0, .int .u8 0, .int .u8 0, .int .u8 0]⟩ := by kernel_rfl
@[simp] theorem Tryz.ti287 : Tryz.prog.ti 287 = ⟨.struct [(5, 0, false), (5, 1, false)], 2, 2, .agg [.int .u8 0, .int .u8 0]⟩ := by kernel_rfl
@[simp] theorem Tryz.ti288 : Tryz.prog.ti 288 = ⟨.struct [(5, 0, false), (5, 1, false)], 2, 2, .agg [.int .u8 0, .int .u8 0]⟩ := by kernel_rfl
@[simp] theorem Tryz.ti289 : Tryz.prog.ti 289 = ⟨.array 16 288, 32, 32, .agg [.int .u8 0, .int .u8 0, .int .u8 0, .int .u8 0, .int .u8 0, .int .u8 0, .int .u8 0, .int .u8 0, .int .u8 0, .int .u8 0, .int .u8 0, .int .u8 0, .int .u8 0, .int .u8 0, .int .u8 0, .int .u8 0, .int .u8 0, .int .u8 0, .int .u8 0, .int .u8 0, .int .u8 0, .int .u8 0, .int .u8 0, .int .u8 0, .int .u8 0, .int .u8 0, .int .u8 0, .int .u8 0, .int .u8 0, .int .u8 0, .int .u8 0, .int .u8 0]⟩ := by kernel_rfl
@[simp] theorem Tryz.ti290 : Tryz.prog.ti 290 = ⟨.int .i64, 1, 8, .int .i64 0⟩ := by kernel_rfl
@[simp] theorem Tryz.ti291 : Tryz.prog.ti 291 = ⟨.pointer 293, 1, 8, .nilP⟩ := by kernel_rfl
@[simp] theorem Tryz.ti292 : Tryz.prog.ti 292 = ⟨.struct [(25, 0, false), (9, 2, false), (3, 3, false), (28, 4, false)], 5, 96, .agg [.nilS, .nilS, .str [], .int .i64 0, .nilS]⟩ := by kernel_rfl
@[simp] theorem Tryz.ti293 : Tryz.prog.ti 293 = ⟨.struct [(25, 0, false), (9, 2, false), (3, 3, false), (28, 4, false)], 5, 96, .agg [.nilS, .nilS, .str [], .int .i64 0, .nilS]⟩ := by kernel_rfl
@[simp] theorem Tryz.ti294 : Tryz.prog.ti 294 = ⟨.func, 1, 8, .nilF⟩ := by kernel_rfl
@[simp] theorem Tryz.ti295 : Tryz.prog.ti 295 = ⟨.pointer 297, 1, 8, .nilP⟩ := by kernel_rfl
@[simp] theorem Tryz.ti296 : Tryz.prog.ti 296 = ⟨.struct [(25, 0, false), (9, 2, false), (3, 3, false), (3, 4, false), (28, 5, false)], 6, 104, .agg [.nilS, .nilS, .str [], .int .i64 0, .int .i64 0, .nilS]⟩ := by kernel_rfl
@[simp] theorem Tryz.ti297 : Tryz.prog.ti 297 = ⟨.struct [(25, 0, false), (9, 2, false), (3, 3, false), (3, 4, false), (28, 5, false)], 6, 104, .agg [.nilS, .nilS, .str [], .int .i64 0, .int .i64 0, .nilS]⟩ := by kernel_rfl
@[simp] theorem Tryz.ti298 : Tryz.prog.ti 298 = ⟨.func, 1, 8, .nilF⟩ := by kernel_rfl
@[simp] theorem Tryz.ti299 : Tryz.prog.ti 299 = ⟨.int .u64, 1, 8, .int .u64 0⟩ := by kernel_rfl
@[simp] theorem Tryz.ti300 : Tryz.prog.ti 300 = ⟨.func, 1, 8, .nilF⟩ := by kernel_rfl
@[simp] theorem Tryz.ti301 : Tryz.prog.ti 301 = ⟨.func, 1, 8, .nilF⟩ := by kernel_rfl
@[simp] theorem Tryz.ti302 : Tryz.prog.ti 302 = ⟨.func, 1, 8, .nilF⟩ := by kernel_rfl
@[simp] theorem Tryz.ti303 : Tryz.prog.ti 303 = ⟨.pointer 3, 1, 8, .nilP⟩ := by kernel_rfl
@[simp] theorem Tryz.ti304 : Tryz.prog.ti 304 = ⟨.func, 1, 8, .nilF⟩ := by kernel_rfl
@[simp] theorem Tryz.ti305 : Tryz.prog.ti 305 = ⟨.func, 1, 8, .nilF⟩ := by kernel_rfl
@[simp] theorem Tryz.ti306 : Tryz.prog.ti 306 = ⟨.func, 1, 8, .nilF⟩ := by kernel_rfl
@[simp] theorem Tryz.ti307 : Tryz.prog.ti 307 = ⟨.func, 1, 8, .nilF⟩ := by kernel_rfl
@[simp] theorem Tryz.ti308 : Tryz.prog.ti 308 = ⟨.func, 1, 8, .nilF⟩ := by kernel_rfl
@[simp] theorem Tryz.ti309 : Tryz.prog.ti 309 = ⟨.func, 1, 8, .nilF⟩ := by kernel_rfl
@[simp] theorem Tryz.ti310 : Tryz.prog.ti 310 = ⟨.func, 1, 8, .nilF⟩ := by kernel_rfl
@[simp] theorem Tryz.ti311 : Tryz.prog.ti 311 = ⟨.func, 1, 8, .nilF⟩ := by kernel_rfl
@[simp] theorem Tryz.ti313 : Tryz.prog.ti 313 = ⟨.func, 1, 8, .nilF⟩ := by kernel_rfl
@[simp] theorem Tryz.ti314 : Tryz.prog.ti 314 = ⟨.func, 1, 8, .nilF⟩ := by kernel_rfl
@[simp] theorem Tryz.ti315 : Tryz.prog.ti 315 = ⟨.func, 1, 8, .nilF⟩ := by kernel_rfl
@[simp] theorem Tryz.ti316 : Tryz.prog.ti 316 = ⟨.func, 1, 8, .nilF⟩ := by kernel_rfl
@[simp] theorem Tryz.ti317 : Tryz.prog.ti 317 = ⟨.func, 1, 8, .nilF⟩ := by kernel_rfl
@[simp] theorem Tryz.ti318 : Tryz.prog.ti 318 = ⟨.pointer 299, 1, 8, .nilP⟩ := by kernel_rfl
@[simp] theorem Tryz.ti320 : Tryz.prog.ti 320 = ⟨.func, 1, 8, .nilF⟩ := by kernel_rfl
@[simp] theorem Tryz.ti321 : Tryz.prog.ti 321 = ⟨.func, 1, 8, .nilF⟩ := by kernel_rfl
@[simp] theorem Tryz.ti322 : Tryz.prog.ti 322 = ⟨.func, 1, 8, .nilF⟩ := by kernel_rfl
@[simp] theorem Tryz.ti323 : Tryz.prog.ti 323 = ⟨.map 3 4, 1, 8, .nilM⟩ := by kernel_rfl
@[simp] theorem Tryz.ti324 : Tryz.prog.ti 324 = ⟨.func, 1, 8, .nilF⟩ := by kernel_rfl
@[simp] theorem Tryz.ti325 : Tryz.prog.ti 325 = ⟨.func, 1, 8, .nilF⟩ := by kernel_rfl
@[simp] theorem Tryz.ti326 : Tryz.prog.ti 326 = ⟨.func, 1, 8, .nilF⟩ := by kernel_rfl
@[simp] theorem Tryz.ti327 : Tryz.prog.ti 327 = ⟨.func, 1, 8, .nilF⟩ := by kernel_rfl
@[simp] theorem Tryz.ti328 : Tryz.prog.ti 328 = ⟨.func, 1, 8, .nilF⟩ := by kernel_rfl
@[simp] theorem Tryz.ti329 : Tryz.prog.ti 329 = ⟨.func, 1, 8, .nilF⟩ := by kernel_rfl
@[simp] theorem Tryz.ti330 : Tryz.prog.ti 330 = ⟨.func, 1, 8, .nilF⟩ := by kernel_rfl
@[simp] theorem Tryz.ti331 : Tryz.prog.ti 331 = ⟨.func, 1, 8, .nilF⟩ := by kernel_rfl
@[simp] theorem Tryz.ti332 : Tryz.prog.ti 332 = ⟨.struct [(17, 0, false), (17, 1, false), (17, 2, false), (9, 3, false)], 4, 40, .agg [.nilP, .nilP, .nilP, .str []]⟩ := by kernel_rfl
@[simp] theorem Tryz.ti333 : Tryz.prog.ti 333 = ⟨.struct [(17, 0, false), (17, 1, false), (17, 2, false), (9, 3, false)], 4, 40, .agg [.nilP, .nilP, .nilP, .str []]⟩ := by kernel_rfl
@[simp] theorem Tryz.ti334 : Tryz.prog.ti 334 = ⟨.array 0 16, 0, 0, .agg []⟩ := by kernel_rfl
@[simp] theorem Tryz.ti335 : Tryz.prog.ti 335 = ⟨.struct [(334, 0, true)], 0, 0, .agg []⟩ := by kernel_rfl
@[simp] theorem Tryz.ti336 : Tryz.prog.ti 336 = ⟨.struct [(334, 0, true)], 0, 0, .agg []⟩ := by kernel_rfl
@[simp] theorem Tryz.ti337 : Tryz.prog.ti 337 = ⟨.int .u8, 1, 1, .int .u8 0⟩ := by kernel_rfl
@[simp] theorem Tryz.ti338 : Tryz.prog.ti 338 = ⟨.int .u8, 1, 1, .int .u8 0⟩ := by kernel_rfl
@[simp] theorem Tryz.ti339 : Tryz.prog.ti 339 = ⟨.func, 1, 8, .nilF⟩ := by kernel_rfl
@[simp] theorem Tryz.ti340 : Tryz.prog.ti 340 = ⟨.int .i32, 1, 4, .int .i32 0⟩ := by kernel_rfl
@[simp] theorem Tryz.ti341 : Tryz.prog.ti 341 = ⟨.int .i32, 1, 4, .int .i32 0⟩ := by kernel_rfl
@[simp] theorem Tryz.ti342 : Tryz.prog.ti 342 = ⟨.struct [(12, 0, false), (12, 1, false), (34, 2, false), (337, 3, false), (5, 4, false), (5, 5, false), (338, 6, false), (339, 7, false), (224, 8, false), (340, 9, false), (341, 10, false)], 11, 48, .agg [.int .u64 0, .int .u64 0, .int .u32 0, .int .u8 0, .int .u8 0, .int .u8 0, .int .u8 0, .nilF, .nilP, .int .i32 0, .int .i32 0]⟩ := by kernel_rfl
@[simp] theorem Tryz.ti343 : Tryz.prog.ti 343 = ⟨.struct [(12, 0, false), (12, 1, false), (34, 2, false), (337, 3, false), (5, 4, false), (5, 5, false), (338, 6, false), (339, 7, false), (224, 8, false), (340, 9, false), (341, 10, false)], 11, 48, .agg [.int .u64 0, .int .u64 0, .int .u32 0, .int .u8 0, .int .u8 0, .int .u8 0, .int .u8 0, .nilF, .nilP, .int .i32 0, .int .i32 0]⟩ := by kernel_rfl
end Go.Proofs
end
