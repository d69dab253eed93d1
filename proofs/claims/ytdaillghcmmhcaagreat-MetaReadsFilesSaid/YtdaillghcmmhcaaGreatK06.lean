/- The closed facts on types, and on regions whose order is open, that the functions of this program ask. -/
import Derived.Test.YtdaillghcmmhcaaGreatProg
import Derived.KernelRfl
import Derived.Test.YtdaillghcmmhcaaGreatK05
set_option linter.unusedSimpArgs false
set_option linter.unusedVariables false
set_option maxHeartbeats 16000000
set_option maxRecDepth 20000
open Go Go.Ag
namespace Go.Proofs.Th
set_option maxRecDepth 100000
@[simp] theorem fld_28_11 : Go.Ag.fieldOff Tryz.prog 28 11 = some 11 := id (by kernel_rfl)
@[simp] theorem lay_26 : Go.Ag.lay Tryz.prog 26 = some (true, 4) := id (by kernel_rfl)
@[simp] theorem lay_28 : Go.Ag.lay Tryz.prog 28 = some (true, 15) := id (by kernel_rfl)
@[simp] theorem issl_31 : Go.Ag.isSlice Tryz.prog 31 = true := id (by kernel_rfl)
@[simp] theorem convk_31_9 : Go.Ag.convK Tryz.prog 31 9 = CvK.toStr := id (by kernel_rfl)
@[simp] theorem elem_31 : Go.Ag.elemOf Tryz.prog 31 = some (5, 1, 1) := id (by kernel_rfl)
@[simp] theorem appty_31_31 : Go.Ag.appTy Tryz.prog 31 31 = some (1, 1) := id (by kernel_rfl)
@[simp] theorem isstr_31 : Go.Ag.isStr Tryz.prog 31 = false := id (by kernel_rfl)
@[simp] theorem zero_28 : Go.Ag.zeroOf Tryz.prog 28 = some (Value.agg #[Value.int IntKind.i64 0, Value.int IntKind.i64 0, Value.int IntKind.i64 0, Value.int IntKind.u32 0, Value.int IntKind.i64 0, Value.int IntKind.i64 0, Value.int IntKind.i64 0, Value.int IntKind.i64 0, Value.int IntKind.i64 0, Value.int IntKind.i64 0, Value.bool false, Value.int IntKind.i64 0, Value.bool false, Value.string ByteArray.empty, Value.string ByteArray.empty]) := id (by kernel_rfl)
@[simp] theorem lay_5 : Go.Ag.lay Tryz.prog 5 = some (false, 1) := id (by kernel_rfl)
@[simp] theorem lay_52 : Go.Ag.lay Tryz.prog 52 = some (true, 5) := id (by kernel_rfl)
@[simp] theorem zero_52 : Go.Ag.zeroOf Tryz.prog 52 = some (Value.agg #[Value.int IntKind.i64 0, Value.slice none 0 0, Value.int IntKind.i64 0, Value.slice none 0 0, Value.string ByteArray.empty]) := id (by kernel_rfl)
@[simp] theorem fld_26_2 : Go.Ag.fieldOff Tryz.prog 26 2 = some 2 := id (by kernel_rfl)
@[simp] theorem lay_9 : Go.Ag.lay Tryz.prog 9 = some (false, 1) := id (by kernel_rfl)
@[simp] theorem issl_9 : Go.Ag.isSlice Tryz.prog 9 = false := id (by kernel_rfl)
@[simp] theorem fld_26_3 : Go.Ag.fieldOff Tryz.prog 26 3 = some 3 := id (by kernel_rfl)
@[simp] theorem elem_49 : Go.Ag.elemOf Tryz.prog 49 = some (69, 5, 48) := id (by kernel_rfl)
@[simp] theorem fld_28_6 : Go.Ag.fieldOff Tryz.prog 28 6 = some 6 := id (by kernel_rfl)
@[simp] theorem lay_3 : Go.Ag.lay Tryz.prog 3 = some (false, 1) := id (by kernel_rfl)
@[simp] theorem fld_28_7 : Go.Ag.fieldOff Tryz.prog 28 7 = some 7 := id (by kernel_rfl)
@[simp] theorem fld_28_8 : Go.Ag.fieldOff Tryz.prog 28 8 = some 8 := id (by kernel_rfl)
@[simp] theorem fld_28_9 : Go.Ag.fieldOff Tryz.prog 28 9 = some 9 := id (by kernel_rfl)
@[simp] theorem fld_28_10 : Go.Ag.fieldOff Tryz.prog 28 10 = some 10 := id (by kernel_rfl)
@[simp] theorem lay_4 : Go.Ag.lay Tryz.prog 4 = some (false, 1) := id (by kernel_rfl)
@[simp] theorem fld_28_0 : Go.Ag.fieldOff Tryz.prog 28 0 = some 0 := id (by kernel_rfl)
@[simp] theorem lay_22 : Go.Ag.lay Tryz.prog 22 = some (false, 1) := id (by kernel_rfl)
@[simp] theorem fld_28_1 : Go.Ag.fieldOff Tryz.prog 28 1 = some 1 := id (by kernel_rfl)
@[simp] theorem fld_28_2 : Go.Ag.fieldOff Tryz.prog 28 2 = some 2 := id (by kernel_rfl)
@[simp] theorem fld_28_4 : Go.Ag.fieldOff Tryz.prog 28 4 = some 4 := id (by kernel_rfl)
@[simp] theorem elem_39 : Go.Ag.elemOf Tryz.prog 39 = some (3, 1, 8) := id (by kernel_rfl)
@[simp] theorem fld_28_5 : Go.Ag.fieldOff Tryz.prog 28 5 = some 5 := id (by kernel_rfl)
@[simp] theorem lay_24 : Go.Ag.lay Tryz.prog 24 = some (false, 1) := id (by kernel_rfl)
@[simp] theorem fld_42_0 : Go.Ag.fieldOff Tryz.prog 42 0 = some 0 := id (by kernel_rfl)
@[simp] theorem lay_38 : Go.Ag.lay Tryz.prog 38 = some (false, 1) := id (by kernel_rfl)
@[simp] theorem fld_42_3 : Go.Ag.fieldOff Tryz.prog 42 3 = some 3 := id (by kernel_rfl)
@[simp] theorem lay_2 : Go.Ag.lay Tryz.prog 2 = some (false, 1) := id (by kernel_rfl)
@[simp] theorem convk_2_5 : Go.Ag.convK Tryz.prog 2 5 = CvK.other := id (by kernel_rfl)
@[simp] theorem fld_42_4 : Go.Ag.fieldOff Tryz.prog 42 4 = some 4 := id (by kernel_rfl)
@[simp] theorem convk_3_76 : Go.Ag.convK Tryz.prog 3 76 = CvK.other := id (by kernel_rfl)
@[simp] theorem convk_9_31 : Go.Ag.convK Tryz.prog 9 31 = CvK.toBytes := id (by kernel_rfl)
@[simp] theorem fld_42_6 : Go.Ag.fieldOff Tryz.prog 42 6 = some 6 := id (by kernel_rfl)
@[simp] theorem lay_40 : Go.Ag.lay Tryz.prog 40 = some (false, 1) := id (by kernel_rfl)
@[simp] theorem issl_40 : Go.Ag.isSlice Tryz.prog 40 = true := id (by kernel_rfl)
@[simp] theorem fld_42_2 : Go.Ag.fieldOff Tryz.prog 42 2 = some 2 := id (by kernel_rfl)
@[simp] theorem convk_3_5 : Go.Ag.convK Tryz.prog 3 5 = CvK.other := id (by kernel_rfl)
@[simp] theorem fld_42_1 : Go.Ag.fieldOff Tryz.prog 42 1 = some 1 := id (by kernel_rfl)
@[simp] theorem elem_40 : Go.Ag.elemOf Tryz.prog 40 = some (42, 7, 96) := id (by kernel_rfl)
@[simp] theorem lay_42 : Go.Ag.lay Tryz.prog 42 = some (true, 7) := id (by kernel_rfl)
@[simp] theorem fld_42_5 : Go.Ag.fieldOff Tryz.prog 42 5 = some 5 := id (by kernel_rfl)
@[simp] theorem lay_39 : Go.Ag.lay Tryz.prog 39 = some (false, 1) := id (by kernel_rfl)
@[simp] theorem zero_42 : Go.Ag.zeroOf Tryz.prog 42 = some (Value.agg #[Value.int IntKind.i64 0, Value.int IntKind.i64 0, Value.int IntKind.i64 0, Value.int IntKind.i64 0, Value.string ByteArray.empty, Value.slice none 0 0, Value.slice none 0 0]) := id (by kernel_rfl)
@[simp] theorem fld_28_3 : Go.Ag.fieldOff Tryz.prog 28 3 = some 3 := id (by kernel_rfl)
@[simp] theorem lay_23 : Go.Ag.lay Tryz.prog 23 = some (false, 1) := id (by kernel_rfl)
@[simp] theorem convk_23_3 : Go.Ag.convK Tryz.prog 23 3 = CvK.other := id (by kernel_rfl)
@[simp] theorem fld_52_4 : Go.Ag.fieldOff Tryz.prog 52 4 = some 4 := id (by kernel_rfl)
@[simp] theorem fld_52_1 : Go.Ag.fieldOff Tryz.prog 52 1 = some 1 := id (by kernel_rfl)
@[simp] theorem lay_49 : Go.Ag.lay Tryz.prog 49 = some (false, 1) := id (by kernel_rfl)
@[simp] theorem issl_49 : Go.Ag.isSlice Tryz.prog 49 = true := id (by kernel_rfl)
@[simp] theorem fld_69_0 : Go.Ag.fieldOff Tryz.prog 69 0 = some 0 := id (by kernel_rfl)
@[simp] theorem fld_52_3 : Go.Ag.fieldOff Tryz.prog 52 3 = some 3 := id (by kernel_rfl)
@[simp] theorem lay_50 : Go.Ag.lay Tryz.prog 50 = some (false, 1) := id (by kernel_rfl)
@[simp] theorem issl_50 : Go.Ag.isSlice Tryz.prog 50 = true := id (by kernel_rfl)
@[simp] theorem elem_50 : Go.Ag.elemOf Tryz.prog 50 = some (89, 3, 40) := id (by kernel_rfl)
@[simp] theorem fld_89_2 : Go.Ag.fieldOff Tryz.prog 89 2 = some 2 := id (by kernel_rfl)
@[simp] theorem lay_87 : Go.Ag.lay Tryz.prog 87 = some (false, 1) := id (by kernel_rfl)
@[simp] theorem issl_87 : Go.Ag.isSlice Tryz.prog 87 = true := id (by kernel_rfl)
@[simp] theorem elem_87 : Go.Ag.elemOf Tryz.prog 87 = some (94, 13, 152) := id (by kernel_rfl)
@[simp] theorem lay_94 : Go.Ag.lay Tryz.prog 94 = some (true, 13) := id (by kernel_rfl)
@[simp] theorem zero_94 : Go.Ag.zeroOf Tryz.prog 94 = some (Value.agg #[Value.slice none 0 0, Value.int IntKind.i64 0, Value.slice none 0 0, Value.int IntKind.i64 0, Value.int IntKind.i64 0, Value.int IntKind.i64 0, Value.int IntKind.i64 0, Value.int IntKind.i64 0, Value.int IntKind.i64 0, Value.int IntKind.i64 0, Value.bool false, Value.string ByteArray.empty, Value.string ByteArray.empty]) := id (by kernel_rfl)
@[simp] theorem fld_94_2 : Go.Ag.fieldOff Tryz.prog 94 2 = some 2 := id (by kernel_rfl)
@[simp] theorem lay_91 : Go.Ag.lay Tryz.prog 91 = some (false, 1) := id (by kernel_rfl)
@[simp] theorem issl_91 : Go.Ag.isSlice Tryz.prog 91 = true := id (by kernel_rfl)
@[simp] theorem fld_94_9 : Go.Ag.fieldOff Tryz.prog 94 9 = some 9 := id (by kernel_rfl)
@[simp] theorem fld_94_0 : Go.Ag.fieldOff Tryz.prog 94 0 = some 0 := id (by kernel_rfl)
@[simp] theorem lay_90 : Go.Ag.lay Tryz.prog 90 = some (false, 1) := id (by kernel_rfl)
@[simp] theorem issl_90 : Go.Ag.isSlice Tryz.prog 90 = true := id (by kernel_rfl)
@[simp] theorem elem_90 : Go.Ag.elemOf Tryz.prog 90 = some (9, 1, 16) := id (by kernel_rfl)
@[simp] theorem appty_49_49 : Go.Ag.appTy Tryz.prog 49 49 = some (5, 48) := id (by kernel_rfl)
@[simp] theorem isstr_49 : Go.Ag.isStr Tryz.prog 49 = false := id (by kernel_rfl)
@[simp] theorem lay_89 : Go.Ag.lay Tryz.prog 89 = some (true, 3) := id (by kernel_rfl)
@[simp] theorem zero_89 : Go.Ag.zeroOf Tryz.prog 89 = some (Value.agg #[Value.int IntKind.i64 0, Value.int IntKind.i64 0, Value.slice none 0 0]) := id (by kernel_rfl)
@[simp] theorem appty_90_90 : Go.Ag.appTy Tryz.prog 90 90 = some (1, 16) := id (by kernel_rfl)
@[simp] theorem isstr_90 : Go.Ag.isStr Tryz.prog 90 = false := id (by kernel_rfl)
@[simp] theorem elem_91 : Go.Ag.elemOf Tryz.prog 91 = some (24, 1, 8) := id (by kernel_rfl)
@[simp] theorem appty_91_91 : Go.Ag.appTy Tryz.prog 91 91 = some (1, 8) := id (by kernel_rfl)
@[simp] theorem isstr_91 : Go.Ag.isStr Tryz.prog 91 = false := id (by kernel_rfl)
@[simp] theorem appty_87_87 : Go.Ag.appTy Tryz.prog 87 87 = some (13, 152) := id (by kernel_rfl)
@[simp] theorem isstr_87 : Go.Ag.isStr Tryz.prog 87 = false := id (by kernel_rfl)
@[simp] theorem appty_50_50 : Go.Ag.appTy Tryz.prog 50 50 = some (3, 40) := id (by kernel_rfl)
@[simp] theorem isstr_50 : Go.Ag.isStr Tryz.prog 50 = false := id (by kernel_rfl)
@[simp] theorem fld_89_0 : Go.Ag.fieldOff Tryz.prog 89 0 = some 0 := id (by kernel_rfl)
@[simp] theorem fld_94_1 : Go.Ag.fieldOff Tryz.prog 94 1 = some 1 := id (by kernel_rfl)
@[simp] theorem lay_66 : Go.Ag.lay Tryz.prog 66 = some (false, 1) := id (by kernel_rfl)
@[simp] theorem fld_52_0 : Go.Ag.fieldOff Tryz.prog 52 0 = some 0 := id (by kernel_rfl)
@[simp] theorem fld_52_2 : Go.Ag.fieldOff Tryz.prog 52 2 = some 2 := id (by kernel_rfl)
@[simp] theorem lay_69 : Go.Ag.lay Tryz.prog 69 = some (true, 5) := id (by kernel_rfl)
@[simp] theorem fld_89_1 : Go.Ag.fieldOff Tryz.prog 89 1 = some 1 := id (by kernel_rfl)
@[simp] theorem appty_40_40 : Go.Ag.appTy Tryz.prog 40 40 = some (7, 96) := id (by kernel_rfl)
@[simp] theorem fat_42_4 : Go.Ag.fieldAt Tryz.prog 42 4 = some (4, false, 1) := id (by kernel_rfl)
@[simp] theorem fat_42_6 : Go.Ag.fieldAt Tryz.prog 42 6 = some (6, false, 1) := id (by kernel_rfl)
@[simp] theorem zero_107 : Go.Ag.zeroOf Tryz.prog 107 = some Value.nilFunc := id (by kernel_rfl)
@[simp] theorem lay_107 : Go.Ag.lay Tryz.prog 107 = some (false, 1) := id (by kernel_rfl)
@[simp] theorem lay_32 : Go.Ag.lay Tryz.prog 32 = some (false, 1) := id (by kernel_rfl)
@[simp] theorem zero_32 : Go.Ag.zeroOf Tryz.prog 32 = some (Value.int IntKind.i64 0) := id (by kernel_rfl)
@[simp] theorem convk_23_21 : Go.Ag.convK Tryz.prog 23 21 = CvK.other := id (by kernel_rfl)
@[simp] theorem convk_21_2 : Go.Ag.convK Tryz.prog 21 2 = CvK.other := id (by kernel_rfl)
@[simp] theorem fld_123_0 : Go.Ag.fieldOff Tryz.prog 123 0 = some 0 := id (by kernel_rfl)
@[simp] theorem issl_39 : Go.Ag.isSlice Tryz.prog 39 = true := id (by kernel_rfl)
@[simp] theorem fld_26_0 : Go.Ag.fieldOff Tryz.prog 26 0 = some 0 := id (by kernel_rfl)
@[simp] theorem fld_26_1 : Go.Ag.fieldOff Tryz.prog 26 1 = some 1 := id (by kernel_rfl)
@[simp] theorem convk_76_5 : Go.Ag.convK Tryz.prog 76 5 = CvK.other := id (by kernel_rfl)
@[simp] theorem convk_2_76 : Go.Ag.convK Tryz.prog 2 76 = CvK.other := id (by kernel_rfl)
@[simp] theorem appty_39_39 : Go.Ag.appTy Tryz.prog 39 39 = some (1, 8) := id (by kernel_rfl)
@[simp] theorem lay_83 : Go.Ag.lay Tryz.prog 83 = some (false, 1) := id (by kernel_rfl)
@[simp] theorem mapty_130 : Go.Ag.mapTy Tryz.prog 130 = some (TypeDesc.int IntKind.i64, 42) := id (by kernel_rfl)
@[simp] theorem fat_42_3 : Go.Ag.fieldAt Tryz.prog 42 3 = some (3, false, 1) := id (by kernel_rfl)
@[simp] theorem convk_2_23 : Go.Ag.convK Tryz.prog 2 23 = CvK.other := id (by kernel_rfl)
@[simp] theorem mapty_133 : Go.Ag.mapTy Tryz.prog 133 = some (TypeDesc.int IntKind.i64, 3) := id (by kernel_rfl)
@[simp] theorem fld_137_2 : Go.Ag.fieldOff Tryz.prog 137 2 = some 2 := id (by kernel_rfl)
@[simp] theorem fld_137_1 : Go.Ag.fieldOff Tryz.prog 137 1 = some 1 := id (by kernel_rfl)
@[simp] theorem convk_3_23 : Go.Ag.convK Tryz.prog 3 23 = CvK.other := id (by kernel_rfl)
@[simp] theorem fld_69_2 : Go.Ag.fieldOff Tryz.prog 69 2 = some 2 := id (by kernel_rfl)
@[simp] theorem fld_69_4 : Go.Ag.fieldOff Tryz.prog 69 4 = some 4 := id (by kernel_rfl)
@[simp] theorem fld_69_3 : Go.Ag.fieldOff Tryz.prog 69 3 = some 3 := id (by kernel_rfl)
@[simp] theorem fld_69_1 : Go.Ag.fieldOff Tryz.prog 69 1 = some 1 := id (by kernel_rfl)
@[simp] theorem lay_67 : Go.Ag.lay Tryz.prog 67 = some (false, 1) := id (by kernel_rfl)
@[simp] theorem fld_94_3 : Go.Ag.fieldOff Tryz.prog 94 3 = some 3 := id (by kernel_rfl)
@[simp] theorem lay_92 : Go.Ag.lay Tryz.prog 92 = some (false, 1) := id (by kernel_rfl)
@[simp] theorem fld_94_4 : Go.Ag.fieldOff Tryz.prog 94 4 = some 4 := id (by kernel_rfl)
@[simp] theorem fld_94_5 : Go.Ag.fieldOff Tryz.prog 94 5 = some 5 := id (by kernel_rfl)
@[simp] theorem fld_94_6 : Go.Ag.fieldOff Tryz.prog 94 6 = some 6 := id (by kernel_rfl)
@[simp] theorem fld_94_7 : Go.Ag.fieldOff Tryz.prog 94 7 = some 7 := id (by kernel_rfl)
@[simp] theorem fld_94_8 : Go.Ag.fieldOff Tryz.prog 94 8 = some 8 := id (by kernel_rfl)
@[simp] theorem lay_103 : Go.Ag.lay Tryz.prog 103 = some (false, 1) := id (by kernel_rfl)
@[simp] theorem iface_149 : Go.Ag.isIface Tryz.prog 149 = some false := id (by kernel_rfl)
@[simp] theorem zero_149 : Go.Ag.zeroOf Tryz.prog 149 = some (Value.agg #[Value.int IntKind.i64 0]) := id (by kernel_rfl)
@[simp] theorem lay_149 : Go.Ag.lay Tryz.prog 149 = some (true, 1) := id (by kernel_rfl)
@[simp] theorem fld_149_0 : Go.Ag.fieldOff Tryz.prog 149 0 = some 0 := id (by kernel_rfl)
@[simp] theorem zero_152 : Go.Ag.zeroOf Tryz.prog 152 = some (Value.agg #[Value.slice none 0 0]) := id (by kernel_rfl)
@[simp] theorem fld_152_0 : Go.Ag.fieldOff Tryz.prog 152 0 = some 0 := id (by kernel_rfl)
@[simp] theorem lay_31 : Go.Ag.lay Tryz.prog 31 = some (false, 1) := id (by kernel_rfl)
@[simp] theorem zero_3 : Go.Ag.zeroOf Tryz.prog 3 = some (Value.int IntKind.i64 0) := id (by kernel_rfl)
@[simp] theorem fld_163_0 : Go.Ag.fieldOff Tryz.prog 163 0 = some 0 := id (by kernel_rfl)
@[simp] theorem fld_161_0 : Go.Ag.fieldOff Tryz.prog 161 0 = some 0 := id (by kernel_rfl)
@[simp] theorem lay_43 : Go.Ag.lay Tryz.prog 43 = some (false, 1) := id (by kernel_rfl)
@[simp] theorem zero_26 : Go.Ag.zeroOf Tryz.prog 26 = some (Value.agg #[Value.int IntKind.i64 0, Value.bool false, Value.string ByteArray.empty, Value.string ByteArray.empty]) := id (by kernel_rfl)
@[simp] theorem convk_5_3 : Go.Ag.convK Tryz.prog 5 3 = CvK.other := id (by kernel_rfl)
@[simp] theorem convk_76_3 : Go.Ag.convK Tryz.prog 76 3 = CvK.other := id (by kernel_rfl)
@[simp] theorem zero_69 : Go.Ag.zeroOf Tryz.prog 69 = some (Value.agg #[Value.string ByteArray.empty, Value.int IntKind.i64 0, Value.int IntKind.i64 0, Value.int IntKind.i64 0, Value.int IntKind.i64 0]) := id (by kernel_rfl)
@[simp] theorem lay_58 : Go.Ag.lay Tryz.prog 58 = some (false, 1) := id (by kernel_rfl)
@[simp] theorem fat_42_0 : Go.Ag.fieldAt Tryz.prog 42 0 = some (0, false, 1) := id (by kernel_rfl)
@[simp] theorem appty_31_9 : Go.Ag.appTy Tryz.prog 31 9 = some (1, 1) := id (by kernel_rfl)
@[simp] theorem iface_158 : Go.Ag.isIface Tryz.prog 158 = some false := id (by kernel_rfl)
@[simp] theorem zero_158 : Go.Ag.zeroOf Tryz.prog 158 = some (Value.agg #[]) := id (by kernel_rfl)
@[simp] theorem lay_158 : Go.Ag.lay Tryz.prog 158 = some (true, 0) := id (by kernel_rfl)
@[simp] theorem iface_159 : Go.Ag.isIface Tryz.prog 159 = some false := id (by kernel_rfl)
@[simp] theorem zero_159 : Go.Ag.zeroOf Tryz.prog 159 = some (Value.agg #[]) := id (by kernel_rfl)
@[simp] theorem lay_159 : Go.Ag.lay Tryz.prog 159 = some (true, 0) := id (by kernel_rfl)
@[simp] theorem lay_160 : Go.Ag.lay Tryz.prog 160 = some (false, 1) := id (by kernel_rfl)
@[simp] theorem convk_5_2 : Go.Ag.convK Tryz.prog 5 2 = CvK.other := id (by kernel_rfl)
@[simp] theorem convk_5_181 : Go.Ag.convK Tryz.prog 5 181 = CvK.other := id (by kernel_rfl)
@[simp] theorem convk_181_2 : Go.Ag.convK Tryz.prog 181 2 = CvK.other := id (by kernel_rfl)
@[simp] theorem fld_137_0 : Go.Ag.fieldOff Tryz.prog 137 0 = some 0 := id (by kernel_rfl)
@[simp] theorem convk_5_76 : Go.Ag.convK Tryz.prog 5 76 = CvK.other := id (by kernel_rfl)
@[simp] theorem convk_76_2 : Go.Ag.convK Tryz.prog 76 2 = CvK.other := id (by kernel_rfl)
@[simp] theorem mapty_198 : Go.Ag.mapTy Tryz.prog 198 = some (TypeDesc.int IntKind.i64, 196) := id (by kernel_rfl)
@[simp] theorem mapty_202 : Go.Ag.mapTy Tryz.prog 202 = some (TypeDesc.int IntKind.i64, 3) := id (by kernel_rfl)
@[simp] theorem und_5 : Tryz.prog.underlying 5 = some (TypeDesc.int IntKind.u8) := id (by kernel_rfl)
@[simp] theorem und_66 : Tryz.prog.underlying 66 = some (TypeDesc.int IntKind.i64) := id (by kernel_rfl)
@[simp] theorem und_32 : Tryz.prog.underlying 32 = some (TypeDesc.int IntKind.i64) := id (by kernel_rfl)
@[simp] theorem und_22 : Tryz.prog.underlying 22 = some (TypeDesc.int IntKind.i64) := id (by kernel_rfl)
@[simp] theorem und_92 : Tryz.prog.underlying 92 = some (TypeDesc.int IntKind.i64) := id (by kernel_rfl)
@[simp] theorem und_76 : Tryz.prog.underlying 76 = some (TypeDesc.int IntKind.u64) := id (by kernel_rfl)
@[simp] theorem und_21 : Tryz.prog.underlying 21 = some (TypeDesc.int IntKind.i32) := id (by kernel_rfl)
@[simp] theorem und_2 : Tryz.prog.underlying 2 = some (TypeDesc.int IntKind.i64) := id (by kernel_rfl)
@[simp] theorem und_20 : Tryz.prog.underlying 20 = some (TypeDesc.interface #[]) := id (by kernel_rfl)
@[simp] theorem und_3 : Tryz.prog.underlying 3 = some (TypeDesc.int IntKind.i64) := id (by kernel_rfl)
@[simp] theorem und_31 : Tryz.prog.underlying 31 = some (TypeDesc.slice 5) := id (by kernel_rfl)
@[simp] theorem und_9 : Tryz.prog.underlying 9 = some TypeDesc.string := id (by kernel_rfl)
@[simp] theorem und_23 : Tryz.prog.underlying 23 = some (TypeDesc.int IntKind.u32) := id (by kernel_rfl)
@[simp] theorem und_181 : Tryz.prog.underlying 181 = some (TypeDesc.int IntKind.i8) := id (by kernel_rfl)
@[simp] theorem und_24 : Tryz.prog.underlying 24 = some (TypeDesc.int IntKind.i64) := id (by kernel_rfl)
@[simp] theorem und_38 : Tryz.prog.underlying 38 = some (TypeDesc.int IntKind.i64) := id (by kernel_rfl)
@[simp] theorem und_4 : Tryz.prog.underlying 4 = some TypeDesc.bool := id (by kernel_rfl)
@[simp] theorem zero_24 : Go.Ag.zeroOf Tryz.prog 24 = some (Value.int IntKind.i64 0) := id (by kernel_rfl)
@[simp] theorem zero_5 : Go.Ag.zeroOf Tryz.prog 5 = some (Value.int IntKind.u8 0) := id (by kernel_rfl)
@[simp] theorem zero_9 : Go.Ag.zeroOf Tryz.prog 9 = some (Value.string ByteArray.empty) := id (by kernel_rfl)
@[simp] theorem zero_137 : Go.Ag.zeroOf Tryz.prog 137 = some (Value.agg #[Value.slice none 0 0, Value.int IntKind.i64 0, Value.int IntKind.i64 0]) := id (by kernel_rfl)
@[simp] theorem zero_123 : Go.Ag.zeroOf Tryz.prog 123 = some (Value.agg #[Value.int IntKind.i64 0, Value.int IntKind.i64 0, Value.int IntKind.i64 0, Value.int IntKind.i64 0, Value.string ByteArray.empty, Value.slice none 0 0, Value.slice none 0 0]) := id (by kernel_rfl)
@[simp] theorem zero_161 : Go.Ag.zeroOf Tryz.prog 161 = some (Value.agg #[Value.slice none 0 0]) := id (by kernel_rfl)
@[simp] theorem zero_163 : Go.Ag.zeroOf Tryz.prog 163 = some (Value.agg #[Value.slice none 0 0]) := id (by kernel_rfl)
@[simp] theorem zero_188 : Go.Ag.zeroOf Tryz.prog 188 = some (Value.agg #[Value.int IntKind.i64 0, Value.int IntKind.i64 0]) := id (by kernel_rfl)
@[simp] theorem zero_196 : Go.Ag.zeroOf Tryz.prog 196 = some Value.nilFunc := id (by kernel_rfl)
noncomputable def pl_28 : Nat → Option (Nat × Nat) := (placeFn Tryz.prog 28).getD fun _ => none
theorem place_28 : placeFn Tryz.prog 28 = some pl_28 := by
  have h : (placeFn Tryz.prog 28).isSome = true := by kernel_rfl
  unfold pl_28
  cases hh : placeFn Tryz.prog 28 with
  | none => rw [hh] at h; cases h
  | some x => rfl
@[simp] theorem pl_28_0 : pl_28 0 = some (0, 1) := id (by kernel_rfl)
@[simp] theorem pl_28_1 : pl_28 1 = some (1, 1) := id (by kernel_rfl)
@[simp] theorem pl_28_2 : pl_28 2 = some (2, 1) := id (by kernel_rfl)
@[simp] theorem pl_28_3 : pl_28 3 = some (3, 1) := id (by kernel_rfl)
@[simp] theorem pl_28_4 : pl_28 4 = some (4, 1) := id (by kernel_rfl)
@[simp] theorem build_28 (parts : List (Nat × AV)) : evBuild Tryz.prog 28 parts = (match zeroOf Tryz.prog 28 with | some z => (evFill pl_28 (z.cells.toList.map constCell) parts).map .agg | none => none) := by
  unfold evBuild
  rw [place_28]
  rfl
noncomputable def pl_69 : Nat → Option (Nat × Nat) := (placeFn Tryz.prog 69).getD fun _ => none
theorem place_69 : placeFn Tryz.prog 69 = some pl_69 := by
  have h : (placeFn Tryz.prog 69).isSome = true := by kernel_rfl
  unfold pl_69
  cases hh : placeFn Tryz.prog 69 with
  | none => rw [hh] at h; cases h
  | some x => rfl
@[simp] theorem pl_69_0 : pl_69 0 = some (0, 1) := id (by kernel_rfl)
@[simp] theorem pl_69_1 : pl_69 1 = some (1, 1) := id (by kernel_rfl)
@[simp] theorem pl_69_2 : pl_69 2 = some (2, 1) := id (by kernel_rfl)
@[simp] theorem pl_69_3 : pl_69 3 = some (3, 1) := id (by kernel_rfl)
@[simp] theorem pl_69_4 : pl_69 4 = some (4, 1) := id (by kernel_rfl)
@[simp] theorem build_69 (parts : List (Nat × AV)) : evBuild Tryz.prog 69 parts = (match zeroOf Tryz.prog 69 with | some z => (evFill pl_69 (z.cells.toList.map constCell) parts).map .agg | none => none) := by
  unfold evBuild
  rw [place_69]
  rfl
noncomputable def pl_52 : Nat → Option (Nat × Nat) := (placeFn Tryz.prog 52).getD fun _ => none
theorem place_52 : placeFn Tryz.prog 52 = some pl_52 := by
  have h : (placeFn Tryz.prog 52).isSome = true := by kernel_rfl
  unfold pl_52
  cases hh : placeFn Tryz.prog 52 with
  | none => rw [hh] at h; cases h
  | some x => rfl
@[simp] theorem pl_52_0 : pl_52 0 = some (0, 1) := id (by kernel_rfl)
@[simp] theorem pl_52_1 : pl_52 1 = some (1, 1) := id (by kernel_rfl)
@[simp] theorem pl_52_2 : pl_52 2 = some (2, 1) := id (by kernel_rfl)
@[simp] theorem pl_52_4 : pl_52 4 = some (4, 1) := id (by kernel_rfl)
@[simp] theorem build_52 (parts : List (Nat × AV)) : evBuild Tryz.prog 52 parts = (match zeroOf Tryz.prog 52 with | some z => (evFill pl_52 (z.cells.toList.map constCell) parts).map .agg | none => none) := by
  unfold evBuild
  rw [place_52]
  rfl
noncomputable def pl_26 : Nat → Option (Nat × Nat) := (placeFn Tryz.prog 26).getD fun _ => none
theorem place_26 : placeFn Tryz.prog 26 = some pl_26 := by
  have h : (placeFn Tryz.prog 26).isSome = true := by kernel_rfl
  unfold pl_26
  cases hh : placeFn Tryz.prog 26 with
  | none => rw [hh] at h; cases h
  | some x => rfl
@[simp] theorem pl_26_0 : pl_26 0 = some (0, 1) := id (by kernel_rfl)
@[simp] theorem pl_26_1 : pl_26 1 = some (1, 1) := id (by kernel_rfl)
@[simp] theorem pl_26_2 : pl_26 2 = some (2, 1) := id (by kernel_rfl)
@[simp] theorem pl_26_3 : pl_26 3 = some (3, 1) := id (by kernel_rfl)
@[simp] theorem build_26 (parts : List (Nat × AV)) : evBuild Tryz.prog 26 parts = (match zeroOf Tryz.prog 26 with | some z => (evFill pl_26 (z.cells.toList.map constCell) parts).map .agg | none => none) := by
  unfold evBuild
  rw [place_26]
  rfl
noncomputable def pl_42 : Nat → Option (Nat × Nat) := (placeFn Tryz.prog 42).getD fun _ => none
theorem place_42 : placeFn Tryz.prog 42 = some pl_42 := by
  have h : (placeFn Tryz.prog 42).isSome = true := by kernel_rfl
  unfold pl_42
  cases hh : placeFn Tryz.prog 42 with
  | none => rw [hh] at h; cases h
  | some x => rfl
@[simp] theorem pl_42_0 : pl_42 0 = some (0, 1) := id (by kernel_rfl)
@[simp] theorem pl_42_2 : pl_42 2 = some (2, 1) := id (by kernel_rfl)
@[simp] theorem pl_42_3 : pl_42 3 = some (3, 1) := id (by kernel_rfl)
@[simp] theorem pl_42_4 : pl_42 4 = some (4, 1) := id (by kernel_rfl)
@[simp] theorem pl_42_6 : pl_42 6 = some (6, 1) := id (by kernel_rfl)
@[simp] theorem build_42 (parts : List (Nat × AV)) : evBuild Tryz.prog 42 parts = (match zeroOf Tryz.prog 42 with | some z => (evFill pl_42 (z.cells.toList.map constCell) parts).map .agg | none => none) := by
  unfold evBuild
  rw [place_42]
  rfl
noncomputable def pl_94 : Nat → Option (Nat × Nat) := (placeFn Tryz.prog 94).getD fun _ => none
theorem place_94 : placeFn Tryz.prog 94 = some pl_94 := by
  have h : (placeFn Tryz.prog 94).isSome = true := by kernel_rfl
  unfold pl_94
  cases hh : placeFn Tryz.prog 94 with
  | none => rw [hh] at h; cases h
  | some x => rfl
@[simp] theorem pl_94_1 : pl_94 1 = some (1, 1) := id (by kernel_rfl)
@[simp] theorem pl_94_3 : pl_94 3 = some (3, 1) := id (by kernel_rfl)
@[simp] theorem pl_94_4 : pl_94 4 = some (4, 1) := id (by kernel_rfl)
@[simp] theorem pl_94_5 : pl_94 5 = some (5, 1) := id (by kernel_rfl)
@[simp] theorem pl_94_6 : pl_94 6 = some (6, 1) := id (by kernel_rfl)
@[simp] theorem pl_94_7 : pl_94 7 = some (7, 1) := id (by kernel_rfl)
@[simp] theorem pl_94_8 : pl_94 8 = some (8, 1) := id (by kernel_rfl)
@[simp] theorem pl_94_9 : pl_94 9 = some (9, 4) := id (by kernel_rfl)
@[simp] theorem build_94 (parts : List (Nat × AV)) : evBuild Tryz.prog 94 parts = (match zeroOf Tryz.prog 94 with | some z => (evFill pl_94 (z.cells.toList.map constCell) parts).map .agg | none => none) := by
  unfold evBuild
  rw [place_94]
  rfl
noncomputable def pl_89 : Nat → Option (Nat × Nat) := (placeFn Tryz.prog 89).getD fun _ => none
theorem place_89 : placeFn Tryz.prog 89 = some pl_89 := by
  have h : (placeFn Tryz.prog 89).isSome = true := by kernel_rfl
  unfold pl_89
  cases hh : placeFn Tryz.prog 89 with
  | none => rw [hh] at h; cases h
  | some x => rfl
@[simp] theorem pl_89_0 : pl_89 0 = some (0, 1) := id (by kernel_rfl)
@[simp] theorem pl_89_1 : pl_89 1 = some (1, 1) := id (by kernel_rfl)
@[simp] theorem pl_89_2 : pl_89 2 = some (2, 1) := id (by kernel_rfl)
@[simp] theorem build_89 (parts : List (Nat × AV)) : evBuild Tryz.prog 89 parts = (match zeroOf Tryz.prog 89 with | some z => (evFill pl_89 (z.cells.toList.map constCell) parts).map .agg | none => none) := by
  unfold evBuild
  rw [place_89]
  rfl
noncomputable def pl_137 : Nat → Option (Nat × Nat) := (placeFn Tryz.prog 137).getD fun _ => none
theorem place_137 : placeFn Tryz.prog 137 = some pl_137 := by
  have h : (placeFn Tryz.prog 137).isSome = true := by kernel_rfl
  unfold pl_137
  cases hh : placeFn Tryz.prog 137 with
  | none => rw [hh] at h; cases h
  | some x => rfl
@[simp] theorem pl_137_0 : pl_137 0 = some (0, 1) := id (by kernel_rfl)
@[simp] theorem build_137 (parts : List (Nat × AV)) : evBuild Tryz.prog 137 parts = (match zeroOf Tryz.prog 137 with | some z => (evFill pl_137 (z.cells.toList.map constCell) parts).map .agg | none => none) := by
  unfold evBuild
  rw [place_137]
  rfl
noncomputable def pl_123 : Nat → Option (Nat × Nat) := (placeFn Tryz.prog 123).getD fun _ => none
theorem place_123 : placeFn Tryz.prog 123 = some pl_123 := by
  have h : (placeFn Tryz.prog 123).isSome = true := by kernel_rfl
  unfold pl_123
  cases hh : placeFn Tryz.prog 123 with
  | none => rw [hh] at h; cases h
  | some x => rfl
@[simp] theorem pl_123_0 : pl_123 0 = some (0, 7) := id (by kernel_rfl)
@[simp] theorem build_123 (parts : List (Nat × AV)) : evBuild Tryz.prog 123 parts = (match zeroOf Tryz.prog 123 with | some z => (evFill pl_123 (z.cells.toList.map constCell) parts).map .agg | none => none) := by
  unfold evBuild
  rw [place_123]
  rfl
noncomputable def pl_161 : Nat → Option (Nat × Nat) := (placeFn Tryz.prog 161).getD fun _ => none
theorem place_161 : placeFn Tryz.prog 161 = some pl_161 := by
  have h : (placeFn Tryz.prog 161).isSome = true := by kernel_rfl
  unfold pl_161
  cases hh : placeFn Tryz.prog 161 with
  | none => rw [hh] at h; cases h
  | some x => rfl
@[simp] theorem pl_161_0 : pl_161 0 = some (0, 1) := id (by kernel_rfl)
@[simp] theorem build_161 (parts : List (Nat × AV)) : evBuild Tryz.prog 161 parts = (match zeroOf Tryz.prog 161 with | some z => (evFill pl_161 (z.cells.toList.map constCell) parts).map .agg | none => none) := by
  unfold evBuild
  rw [place_161]
  rfl
noncomputable def pl_163 : Nat → Option (Nat × Nat) := (placeFn Tryz.prog 163).getD fun _ => none
theorem place_163 : placeFn Tryz.prog 163 = some pl_163 := by
  have h : (placeFn Tryz.prog 163).isSome = true := by kernel_rfl
  unfold pl_163
  cases hh : placeFn Tryz.prog 163 with
  | none => rw [hh] at h; cases h
  | some x => rfl
@[simp] theorem pl_163_0 : pl_163 0 = some (0, 1) := id (by kernel_rfl)
@[simp] theorem build_163 (parts : List (Nat × AV)) : evBuild Tryz.prog 163 parts = (match zeroOf Tryz.prog 163 with | some z => (evFill pl_163 (z.cells.toList.map constCell) parts).map .agg | none => none) := by
  unfold evBuild
  rw [place_163]
  rfl
noncomputable def pl_149 : Nat → Option (Nat × Nat) := (placeFn Tryz.prog 149).getD fun _ => none
theorem place_149 : placeFn Tryz.prog 149 = some pl_149 := by
  have h : (placeFn Tryz.prog 149).isSome = true := by kernel_rfl
  unfold pl_149
  cases hh : placeFn Tryz.prog 149 with
  | none => rw [hh] at h; cases h
  | some x => rfl
@[simp] theorem pl_149_0 : pl_149 0 = some (0, 1) := id (by kernel_rfl)
@[simp] theorem build_149 (parts : List (Nat × AV)) : evBuild Tryz.prog 149 parts = (match zeroOf Tryz.prog 149 with | some z => (evFill pl_149 (z.cells.toList.map constCell) parts).map .agg | none => none) := by
  unfold evBuild
  rw [place_149]
  rfl
noncomputable def pl_158 : Nat → Option (Nat × Nat) := (placeFn Tryz.prog 158).getD fun _ => none
theorem place_158 : placeFn Tryz.prog 158 = some pl_158 := by
  have h : (placeFn Tryz.prog 158).isSome = true := by kernel_rfl
  unfold pl_158
  cases hh : placeFn Tryz.prog 158 with
  | none => rw [hh] at h; cases h
  | some x => rfl
@[simp] theorem build_158 (parts : List (Nat × AV)) : evBuild Tryz.prog 158 parts = (match zeroOf Tryz.prog 158 with | some z => (evFill pl_158 (z.cells.toList.map constCell) parts).map .agg | none => none) := by
  unfold evBuild
  rw [place_158]
  rfl
noncomputable def pl_159 : Nat → Option (Nat × Nat) := (placeFn Tryz.prog 159).getD fun _ => none
theorem place_159 : placeFn Tryz.prog 159 = some pl_159 := by
  have h : (placeFn Tryz.prog 159).isSome = true := by kernel_rfl
  unfold pl_159
  cases hh : placeFn Tryz.prog 159 with
  | none => rw [hh] at h; cases h
  | some x => rfl
@[simp] theorem build_159 (parts : List (Nat × AV)) : evBuild Tryz.prog 159 parts = (match zeroOf Tryz.prog 159 with | some z => (evFill pl_159 (z.cells.toList.map constCell) parts).map .agg | none => none) := by
  unfold evBuild
  rw [place_159]
  rfl
noncomputable def pl_188 : Nat → Option (Nat × Nat) := (placeFn Tryz.prog 188).getD fun _ => none
theorem place_188 : placeFn Tryz.prog 188 = some pl_188 := by
  have h : (placeFn Tryz.prog 188).isSome = true := by kernel_rfl
  unfold pl_188
  cases hh : placeFn Tryz.prog 188 with
  | none => rw [hh] at h; cases h
  | some x => rfl
@[simp] theorem pl_188_0 : pl_188 0 = some (0, 1) := id (by kernel_rfl)
@[simp] theorem pl_188_1 : pl_188 1 = some (1, 1) := id (by kernel_rfl)
@[simp] theorem build_188 (parts : List (Nat × AV)) : evBuild Tryz.prog 188 parts = (match zeroOf Tryz.prog 188 with | some z => (evFill pl_188 (z.cells.toList.map constCell) parts).map .agg | none => none) := by
  unfold evBuild
  rw [place_188]
  rfl
theorem bef_23_14 : Region.before (opsOf (Tryz.f23.body.getD .skip) 14) = #[0, 0, 0, 4, 0, 28, 60, 124, 0, 508, 1020, 2044, 4094, 8190, 16383, 32767] := id (by kernel_rfl)
theorem bef_23_16 : Region.before (opsOf (Tryz.f23.body.getD .skip) 16) = #[0, 0, 2, 0, 14, 30, 62, 126, 255, 511] := id (by kernel_rfl)
theorem bef_23_17 : Region.before (opsOf (Tryz.f23.body.getD .skip) 17) = #[0, 0, 0, 4, 0, 28, 60, 124, 252, 510, 1022, 2047, 4095] := id (by kernel_rfl)
theorem bef_23_19 : Region.before (opsOf (Tryz.f23.body.getD .skip) 19) = #[0, 0, 2, 7, 15] := id (by kernel_rfl)
theorem bef_23_20 : Region.before (opsOf (Tryz.f23.body.getD .skip) 20) = #[0, 0, 2, 6, 15, 31] := id (by kernel_rfl)
theorem bef_23_21 : Region.before (opsOf (Tryz.f23.body.getD .skip) 21) = #[0, 0, 2, 7, 15] := id (by kernel_rfl)
theorem bef_23_23 : Region.before (opsOf (Tryz.f23.body.getD .skip) 23) = #[0, 0, 2, 6, 15, 31] := id (by kernel_rfl)
theorem bef_25_4 : Region.before (opsOf (Tryz.f25.body.getD .skip) 4) = #[0, 1, 0, 7, 0, 31, 63, 127, 0, 511] := id (by kernel_rfl)
theorem bef_25_5 : Region.before (opsOf (Tryz.f25.body.getD .skip) 5) = #[0, 1, 3, 0, 11, 27, 31, 127] := id (by kernel_rfl)
theorem bef_25_9 : Region.before (opsOf (Tryz.f25.body.getD .skip) 9) = #[0, 1, 0, 0, 12, 28, 60, 124, 0, 0, 768, 1792, 3964, 0, 0, 24576, 57344, 130940, 0, 0, 786432, 1835008, 4194172, 0, 0, 25165824, 58720256, 134217596, 268435452, 536870908, 1073741823, 2147483647, 4294967295] := id (by kernel_rfl)
theorem bef_25_13 : Region.before (opsOf (Tryz.f25.body.getD .skip) 13) = #[0, 0, 3, 7, 15, 0, 0, 96, 224, 511, 1023, 0, 4095] := id (by kernel_rfl)
theorem bef_25_18 : Region.before (opsOf (Tryz.f25.body.getD .skip) 18) = #[0, 1, 0, 0, 12, 28, 60, 124, 252, 511, 1023, 2047] := id (by kernel_rfl)
theorem bef_25_20 : Region.before (opsOf (Tryz.f25.body.getD .skip) 20) = #[0, 1, 3, 7, 15, 31, 15, 127, 255, 511] := id (by kernel_rfl)
theorem bef_26_6 : Region.before (opsOf (Tryz.f26.body.getD .skip) 6) = #[0, 1, 0, 7, 15, 0, 32, 0, 224, 480, 1023] := id (by kernel_rfl)
theorem bef_26_11 : Region.before (opsOf (Tryz.f26.body.getD .skip) 11) = #[0, 1, 0, 7, 15, 0, 32, 0, 224, 480, 0, 0, 3103, 8191] := id (by kernel_rfl)
theorem bef_26_17 : Region.before (opsOf (Tryz.f26.body.getD .skip) 17) = #[0, 1, 0, 7, 15, 0, 32, 0, 224, 480, 1023, 2047] := id (by kernel_rfl)
theorem bef_38_3 : Region.before (opsOf (Tryz.f38.body.getD .skip) 3) = #[0, 1, 3, 0, 8, 31, 63, 127] := id (by kernel_rfl)
theorem bef_40_3 : Region.before (opsOf (Tryz.f40.body.getD .skip) 3) = #[0, 0, 2, 6, 15, 31] := id (by kernel_rfl)
theorem bef_40_4 : Region.before (opsOf (Tryz.f40.body.getD .skip) 4) = #[0, 0, 2, 6, 15, 31] := id (by kernel_rfl)
theorem bef_43_4 : Region.before (opsOf (Tryz.f43.body.getD .skip) 4) = #[0, 0, 2, 6, 14, 1, 33, 127] := id (by kernel_rfl)
theorem bef_43_5 : Region.before (opsOf (Tryz.f43.body.getD .skip) 5) = #[0, 0, 2, 6, 14, 1, 63, 127] := id (by kernel_rfl)
theorem bef_45_6 : Region.before (opsOf (Tryz.f45.body.getD .skip) 6) = #[0, 1, 0, 7, 15, 0, 32, 0, 224, 480, 1023] := id (by kernel_rfl)
theorem bef_45_11 : Region.before (opsOf (Tryz.f45.body.getD .skip) 11) = #[0, 1, 0, 7, 15, 0, 32, 0, 224, 480, 1023, 2047] := id (by kernel_rfl)
theorem bef_50_3 : Region.before (opsOf (Tryz.f50.body.getD .skip) 3) = #[0, 0, 2, 6, 15, 31] := id (by kernel_rfl)
theorem bef_50_5 : Region.before (opsOf (Tryz.f50.body.getD .skip) 5) = #[0, 0, 2, 6, 15, 31] := id (by kernel_rfl)
theorem bef_50_6 : Region.before (opsOf (Tryz.f50.body.getD .skip) 6) = #[0, 0, 2, 6, 15, 31] := id (by kernel_rfl)
theorem bef_50_7 : Region.before (opsOf (Tryz.f50.body.getD .skip) 7) = #[0, 0, 2, 6, 15, 31] := id (by kernel_rfl)
theorem bef_50_9 : Region.before (opsOf (Tryz.f50.body.getD .skip) 9) = #[0, 0, 2, 6, 15, 31] := id (by kernel_rfl)
theorem bef_52_11 : Region.before (opsOf (Tryz.f52.body.getD .skip) 11) = #[0, 0, 2, 7, 15] := id (by kernel_rfl)
theorem bef_52_12 : Region.before (opsOf (Tryz.f52.body.getD .skip) 12) = #[0, 0, 2, 7, 15] := id (by kernel_rfl)
theorem bef_52_13 : Region.before (opsOf (Tryz.f52.body.getD .skip) 13) = #[0, 0, 2, 6, 15, 31] := id (by kernel_rfl)
theorem bef_52_14 : Region.before (opsOf (Tryz.f52.body.getD .skip) 14) = #[0, 0, 2, 6, 15, 31] := id (by kernel_rfl)
theorem bef_52_15 : Region.before (opsOf (Tryz.f52.body.getD .skip) 15) = #[0, 0, 2, 6, 15, 31] := id (by kernel_rfl)
theorem bef_52_16 : Region.before (opsOf (Tryz.f52.body.getD .skip) 16) = #[0, 0, 2, 6, 15, 31] := id (by kernel_rfl)
theorem bef_52_17 : Region.before (opsOf (Tryz.f52.body.getD .skip) 17) = #[0, 0, 2, 6, 15, 31] := id (by kernel_rfl)
theorem bef_52_19 : Region.before (opsOf (Tryz.f52.body.getD .skip) 19) = #[0, 0, 2, 6, 15, 31] := id (by kernel_rfl)
theorem bef_52_20 : Region.before (opsOf (Tryz.f52.body.getD .skip) 20) = #[0, 0, 2, 6, 15, 31] := id (by kernel_rfl)
theorem bef_56_2 : Region.before (opsOf (Tryz.f56.body.getD .skip) 2) = #[0, 1, 0, 7, 0, 16, 48, 127, 0, 511] := id (by kernel_rfl)
theorem bef_59_1 : Region.before (opsOf (Tryz.f59.body.getD .skip) 1) = #[0, 1, 0, 7, 0, 31, 0, 127, 0, 511, 0, 2047, 0, 8191, 16383, 32767, 0, 131071] := id (by kernel_rfl)
theorem bef_59_4 : Region.before (opsOf (Tryz.f59.body.getD .skip) 4) = #[0, 1, 3, 0, 11, 27, 31, 127] := id (by kernel_rfl)
theorem bef_59_8 : Region.before (opsOf (Tryz.f59.body.getD .skip) 8) = #[0, 1, 0, 0, 12, 28, 60, 124, 255, 511, 1023] := id (by kernel_rfl)
theorem bef_59_12 : Region.before (opsOf (Tryz.f59.body.getD .skip) 12) = #[0, 1, 0, 0, 12, 28, 60, 124, 255, 511, 1023] := id (by kernel_rfl)
theorem bef_60_6 : Region.before (opsOf (Tryz.f60.body.getD .skip) 6) = #[0, 1, 0, 7, 15, 0, 32, 0, 224, 480, 1023] := id (by kernel_rfl)
theorem bef_60_11 : Region.before (opsOf (Tryz.f60.body.getD .skip) 11) = #[0, 1, 0, 7, 15, 0, 32, 0, 224, 480, 1023] := id (by kernel_rfl)
theorem bef_72_2 : Region.before (opsOf (Tryz.f72.body.getD .skip) 2) = #[0, 1, 3, 7, 15, 0, 31, 0, 255, 511, 1023, 511, 2559, 6655, 14847] := id (by kernel_rfl)
theorem bef_74_3 : Region.before (opsOf (Tryz.f74.body.getD .skip) 3) = #[0, 1, 3, 0, 8, 31, 0, 0, 255, 511] := id (by kernel_rfl)
theorem bef_76_4 : Region.before (opsOf (Tryz.f76.body.getD .skip) 4) = #[0, 0, 2, 0, 8, 24, 56, 120, 248, 510, 1, 2047, 4095] := id (by kernel_rfl)
theorem bef_81_3 : Region.before (opsOf (Tryz.f81.body.getD .skip) 3) = #[0, 1, 0, 0, 8, 24, 0, 64, 192, 511, 1023] := id (by kernel_rfl)
theorem bef_83_1 : Region.before (opsOf (Tryz.f83.body.getD .skip) 1) = #[0, 1, 0, 7, 0, 31, 63, 0, 191, 447, 1023, 2047] := id (by kernel_rfl)
theorem bef_84_6 : Region.before (opsOf (Tryz.f84.body.getD .skip) 6) = #[0, 1, 0, 0, 12, 28, 63, 127, 255] := id (by kernel_rfl)
theorem bef_87_6 : Region.before (opsOf (Tryz.f87.body.getD .skip) 6) = #[0, 1, 0, 0, 12, 28, 63, 127, 255] := id (by kernel_rfl)
theorem bef_91_2 : Region.before (opsOf (Tryz.f91.body.getD .skip) 2) = #[0, 0, 0, 6, 15, 31, 63] := id (by kernel_rfl)
theorem bef_93_2 : Region.before (opsOf (Tryz.f93.body.getD .skip) 2) = #[0, 1, 3, 0, 8, 0, 56, 0, 248, 0, 1016, 2047, 4095] := id (by kernel_rfl)
theorem bef_97_2 : Region.before (opsOf (Tryz.f97.body.getD .skip) 2) = #[0, 1, 0, 7, 0, 31, 0, 127, 0, 511, 0, 2047, 0, 4096, 16383, 32767, 0, 131071] := id (by kernel_rfl)
theorem bef_100_18 : Region.before (opsOf (Tryz.f100.body.getD .skip) 18) = #[0, 0, 2, 6, 14, 0, 32, 126, 255, 511, 1023] := id (by kernel_rfl)
theorem bef_105_12 : Region.before (opsOf (Tryz.f105.body.getD .skip) 12) = #[0, 0, 2, 7, 15, 31] := id (by kernel_rfl)
theorem bef_105_17 : Region.before (opsOf (Tryz.f105.body.getD .skip) 17) = #[0, 1, 0, 4, 0, 16, 60, 127, 255, 511] := id (by kernel_rfl)
theorem bef_105_24 : Region.before (opsOf (Tryz.f105.body.getD .skip) 24) = #[0, 0, 2, 6, 14, 30, 0, 126, 255, 511, 1023, 2047] := id (by kernel_rfl)
theorem bef_105_39 : Region.before (opsOf (Tryz.f105.body.getD .skip) 39) = #[0, 0, 2, 0, 8, 31, 0, 0, 128, 0, 512, 2047, 4095, 8191, 16383, 32767] := id (by kernel_rfl)
theorem bef_106_6 : Region.before (opsOf (Tryz.f106.body.getD .skip) 6) = #[0, 0, 3, 7, 0, 0, 48, 112, 255] := id (by kernel_rfl)
theorem bef_108_3 : Region.before (opsOf (Tryz.f108.body.getD .skip) 3) = #[0, 1, 3, 7, 0, 16, 48, 112, 240, 511] := id (by kernel_rfl)
theorem bef_108_7 : Region.before (opsOf (Tryz.f108.body.getD .skip) 7) = #[0, 1, 3, 7, 0, 16, 48, 112, 240, 511, 1023, 2047] := id (by kernel_rfl)
theorem bef_112_26 : Region.before (opsOf (Tryz.f112.body.getD .skip) 26) = #[0, 1, 3, 7, 15, 31, 63, 63, 191, 447, 959, 1983, 63, 4159, 12351, 28735, 65471, 131071, 262143] := id (by kernel_rfl)
theorem bef_112_29 : Region.before (opsOf (Tryz.f112.body.getD .skip) 29) = #[0, 1, 3, 7, 0, 16, 48, 112, 0, 256, 768, 1792, 0, 7936, 16383, 32767, 65535, 131071] := id (by kernel_rfl)
theorem bef_114_6 : Region.before (opsOf (Tryz.f114.body.getD .skip) 6) = #[0, 1, 0, 0, 12, 28, 63, 127, 255] := id (by kernel_rfl)
theorem bef_120_3 : Region.before (opsOf (Tryz.f120.body.getD .skip) 3) = #[0, 0, 2, 7, 15, 31, 31, 63, 255] := id (by kernel_rfl)
theorem bef_135_2 : Region.before (opsOf (Tryz.f135.body.getD .skip) 2) = #[0, 0, 2, 0, 8, 30, 0, 64, 254, 0, 512, 2047, 4095] := id (by kernel_rfl)
theorem bef_136_6 : Region.before (opsOf (Tryz.f136.body.getD .skip) 6) = #[0, 1, 3, 7, 0, 16, 48, 112, 240, 496, 1023, 2047, 4095] := id (by kernel_rfl)
theorem bef_136_20 : Region.before (opsOf (Tryz.f136.body.getD .skip) 20) = #[0, 1, 3, 7, 0, 15, 0, 127, 255, 511, 255, 1279, 3327] := id (by kernel_rfl)
theorem bef_143_6 : Region.before (opsOf (Tryz.f143.body.getD .skip) 6) = #[0, 1, 0, 0, 12, 28, 63, 127, 255] := id (by kernel_rfl)
theorem bef_145_6 : Region.before (opsOf (Tryz.f145.body.getD .skip) 6) = #[0, 1, 0, 0, 12, 28, 63, 127, 255] := id (by kernel_rfl)
theorem bef_154_3 : Region.before (opsOf (Tryz.f154.body.getD .skip) 3) = #[0, 1, 3, 7, 15, 31, 63, 127, 255, 511, 1023, 2047, 4095, 8191, 16383, 32767, 65535, 131071, 262143, 524287, 1048575, 2097151, 4194303, 8388607, 16777215, 33554431, 67108863, 134217727, 268435455, 536870911, 1073741823, 2147483647, 536870911, 4831838207, 17179869183, 34359738367, 68719476735, 137438953471, 274877906943, 549755813887, 137438953471, 1236950581247, 4398046511103, 8796093022207, 17592186044415] := id (by kernel_rfl)
end Go.Proofs.Th
/- THRIFT: what the program is asked once. -/
open Go Go.Ag
namespace Go.Proofs.Th
theorem pchk : PChk Tryz.prog := ⟨by kernel_rfl, by kernel_rfl⟩
end Go.Proofs.Th
open Go Go.Ag
namespace Go.Proofs.Th
attribute [local simp] ec_skip ec_region ec_seq ec_cond ec_block ec_loop ec_exit ec_ret seqK_normal seqK_exit seqK_ret seqK_pan condK_true condK_false blockK_exit blockK_normal blockK_ret blockK_pan regionK_plain regionK_draw eo_nil eo_cons cutS_nil cutOf opK_is wantK_yes wantK_no stepK_ret stepK_pan endK_normal endK_ret endK_pan annotate headS wantedA evOp evOp1 evA Ag.get putT dstOK argsEnv retK resR resAll resOne constAV constCell Ctx.bss evLoad evStore AV.cells intOfAV AV.val AV.vals splice okCell okCells_nil okCells_cons finish AV.lt AV.lts AV.ltss putObj partOf restrT ltT ownOK bsOK bsOKs List.lookup_cons pr_bind pr_pure pr_guard_int pr_guard_str pr_guard_bool pr_add pr_sub pr_mul pr_eql pr_neq pr_lss pr_leq pr_gtr pr_geq pr_seql pr_sneq pr_not pr_shl pr_shr pr_quo pr_rem pr_and pr_or pr_xor pr_conv pr_min2 pr_max2 undef callP plA plS plR plO nameP ARes.keys callW callAt callKs inS outS backK reachW pickM renObjs AObj.ren AV.ren AV.rens renss renE posOf backM outK lokAt ARes.ren AV.keys AV.keyss objKeys evFieldAddr evIndexAddr evLen evFill List.range_succ Value.oneCell' evInsert mfind sameKey isKey AObj.lt Value.cells
attribute [local simp] look_mp look_mp2 look_imp look_imp2 lookV lookB intKeys cond_vint cond_vbool bits_i64 bits_u64 bits_u8 bits_i8 bits_i32 bits_u32
attribute [local simp] wrap64_in wrapu64_in wrapu8_in
attribute [local simp] fz_int fz_str fz_bool fz_float fz_nilp fz_tuple fz_nili fz_nilf fz_nilm fz_any fz_nil fz_emp fz_ptr fz_rp fz_ip fz_imp fz_agg fz_tup fz_ifc fz_fn fz_sl fzRow_row fz_so fzMap_mp fz_mp appR_row appN appX_nil appX_emp appX_so appS_some appT_some app_is bsD_some bsB_some bsA_some bs1_is bsZ0_some bsA0_some bs0_is src_sl srcR_row src_so src_str src_nil src_emp rowsOK_nil rowsOK_cons rowsOK_app
section
def reg (f : FuncId) (r : Nat) : Option Ann := match f, r with
  | 69, 4 => some { nilsO := [(1, 0, 1)] }
  | 105, 2 => some { nilsO := [(3, 5, 1), (3, 6, 7)] }
  | 155, 2 => some { nils := [(5, 7)] }
  | 155, 3 => some { live := some [0, 5, 6], keep := some 1 }
  | 123, 0 => some { live := some [0, 1], keep := some 0 }
  | 100, 31 => some { live := some [0, 3, 110, 111, 112], keep := some 1 }
  | 124, 3 => some { live := some [0, 3, 4, 10, 11, 12], keep := some 1 }
  | 35, 2 => some { live := some [0, 3], nils := [(3, 1)], keep := some 1 }
  | 45, 9 => some { live := some [2, 3, 4, 6], keep := some 2 }
  | 130, 2 => some { nils := [(5, 1)] }
  | 130, 3 => some { live := some [1, 5, 7, 8], keep := some 1 }
  | 133, 2 => some { nils := [(5, 7)] }
  | 133, 3 => some { live := some [1, 5, 7, 8], keep := some 1 }
  | 107, 4 => some { live := some [1, 2, 15, 16, 17], keep := some 0 }
  | 112, 2 => some { nilsO := [(1, 5, 1), (1, 6, 7)] }
  | 141, 3 => some { nilsO := [(1, 5, 1), (1, 6, 7)] }
  | 141, 10 => some { live := some [0, 1, 4, 6, 7, 8], keep := some 4 }
  | 142, 2 => some { nilsO := [(1, 5, 1), (1, 6, 7)] }
  | 142, 10 => some { live := some [0, 1, 4, 5, 6, 8], keep := some 4 }
  | 82, 2 => some { nilsO := [(1, 5, 1), (1, 6, 7)] }
  | 82, 3 => some { live := some [0, 1, 4, 5, 6], keep := some 4 }
  | 14, 12 => some { nils := [(3, 1)] }
  | 14, 13 => some { live := some [1, 3, 4], keep := some 2 }
  | 14, 20 => some { nils := [(5, 1)] }
  | 14, 32 => some { live := some [1, 5, 6, 7], keep := some 2 }
  | _, _ => none
def fin (f : FuncId) : Option Nat := match f with
  | 35 => none
  | _ => some 4
attribute [simp] fin
def onT (f : FuncId) : Bool := ([14, 35, 36, 37, 43, 45, 69, 76, 78, 82, 99, 100, 104, 105, 106, 107, 108, 109, 110, 111, 112, 120, 121, 122, 123, 124, 126, 127, 128, 129, 130, 131, 132, 133, 134, 135, 136, 137, 138, 139, 140, 141, 142, 146, 147, 148, 149, 150, 151, 152, 153, 154, 155, 156, 157, 158, 174] : List Nat).contains f
def ann : FuncId → AnnF := fun f => { reg := reg f, fin := fin f, off := !(onT f) }
noncomputable abbrev ev := evW Tryz.prog ann
def known (k : Int) : Bool := k == 1 || (k == 3 || (k == 4 || (k == 5 || (k == 6 || (k == 7 || (k == 8 || (k == 9 || (k == 11 || k == 12))))))))
def holds (k : Int) : Bool := k == 9 || (k == 11 || k == 12)
theorem f70 (k : Int) : ev 151 [.v (.int .i64 k)] [] = some (.ret (.v (.bool (holds k))), []) := by
  refine ev_fn Tryz.func151 rfl rfl (Nat.le_of_ble_eq_true rfl) ?_
  cases e1 : (k == 9)
  · cases e2 : (k == 11)
    · simp [ann, reg, Tryz.f151, holds, e1, e2]
    · simp [ann, reg, Tryz.f151, holds, e1, e2]
  · simp [ann, reg, Tryz.f151, holds, e1]
end
end Go.Proofs.Th
/- THRIFT: its values, as' the machine holds them. -/
open Go Go.Ag
namespace Go.Proofs.Th
inductive Th where
  | mk (kind key elem i : Int) (text : List UInt8) (ids : List Int) (list : List Th)
def irows (l : List Int) : List (List AV) := l.map fun i => [.v (.int .i64 i)]
def spare7 : List AV := [.v (.int .i64 77), .v (.int .i64 0), .v (.int .i64 0), .v (.int .i64 0), .v (.string ByteArray.empty), .sl [] [], .sl [] []]
def sp1 (sp : Bool) : List (List AV) := if sp then [[.v (.int .i64 77)]] else []
def sp7 (sp : Bool) : List (List AV) := if sp then [spare7] else []
mutual
/-- The cells of a value; 'sp': with something behind each list. -/
def Th.cells (sp : Bool) : Th → List AV
  | .mk k y e i t ids l => [.v (.int .i64 k), .v (.int .i64 y), .v (.int .i64 e), .v (.int .i64 i), .v (.string (bstr t)), .sl (irows ids) (sp1 sp), .sl (trows sp l) (sp7 sp)]
def trows (sp : Bool) : List Th → List (List AV)
  | [] => []
  | x :: xs => x.cells sp :: trows sp xs
end
theorem trows_map (sp : Bool) : ∀ l, trows sp l = l.map (Th.cells sp)
  | [] => by simp [trows]
  | x :: xs => by simp [trows, trows_map sp xs]
theorem trows_len (sp : Bool) (l : List Th) : (trows sp l).length = l.length := by simp [trows_map]
theorem irows_len (l : List Int) : (irows l).length = l.length := by simp [irows]
theorem trows_get {sp : Bool} {l : List Th} {i : Nat} {x : Th} (h : l[i]? = some x) : (trows sp l)[i]? = some (x.cells sp) := by simp [trows_map, h]
theorem irows_get {l : List Int} {i : Nat} {x : Int} (h : l[i]? = some x) : (irows l)[i]? = some [.v (.int .i64 x)] := by simp [irows, h]
theorem cells_len (sp : Bool) (x : Th) : (x.cells sp).length = 7 := by cases x; simp [Th.cells]
theorem cells_ok (sp : Bool) (x : Th) : okCells (x.cells sp) = true := by cases x; simp [Th.cells, okCells, okCell, Value.oneCell']
theorem irows_lt (l : List Int) (n : Nat) : AV.ltss n (irows l) = true := by
  induction l with
  | nil => rfl
  | cons b l ih => simpa [irows, AV.ltss, AV.lts, AV.lt] using ih
theorem sp1_lt (sp : Bool) (n : Nat) : AV.ltss n (sp1 sp) = true := by cases sp <;> simp [sp1, AV.ltss, AV.lts, AV.lt]
theorem sp7_lt (sp : Bool) (n : Nat) : AV.ltss n (sp7 sp) = true := by cases sp <;> simp [sp7, spare7, AV.ltss, AV.lts, AV.lt]
mutual
theorem cells_lt (sp : Bool) (n : Nat) : ∀ x : Th, AV.lts n (x.cells sp) = true
  | .mk k y e i t ids l => by simp [Th.cells, AV.lts, AV.lt, irows_lt, sp1_lt, sp7_lt, trows_lt sp n l]
theorem trows_lt (sp : Bool) (n : Nat) : ∀ l : List Th, AV.ltss n (trows sp l) = true
  | [] => by simp [trows, AV.ltss]
  | x :: xs => by simp [trows, AV.ltss, cells_lt sp n x, trows_lt sp n xs]
end
theorem irows_ok (l : List Int) : rowsOK 1 (irows l) = true := by simp [rowsOK, irows, okCells, okCell, Value.oneCell']
theorem trows_ok (sp : Bool) (l : List Th) : rowsOK 7 (trows sp l) = true := by
  simp only [rowsOK, trows_map, List.all_map, List.all_eq_true]
  intro x _
  simp [cells_len, cells_ok]
theorem sp1_ok (sp : Bool) : rowsOK 1 (sp1 sp) = true := by cases sp <;> simp [sp1, rowsOK, okCells, okCell, Value.oneCell']
theorem sp7_ok (sp : Bool) : rowsOK 7 (sp7 sp) = true := by cases sp <;> simp [sp7, spare7, rowsOK, okCells, okCell, Value.oneCell']
theorem irows_frz (M : Mem) (b n : Nat) (l : List Int) : (irows l).map (fun r => r.map (frz M b n)) = irows l := by
  have h : ∀ x : Int, frz M b n (.v (.int .i64 x)) = .v (.int .i64 x) := by intro x; cases n <;> rfl
  simp [irows, h, Function.comp_def]
theorem frz_int (M : Mem) (b n : Nat) (k : IntKind) (x : Int) : frz M b n (.v (.int k x)) = .v (.int k x) := by cases n <;> rfl
theorem frz_str (M : Mem) (b n : Nat) (x : ByteArray) : frz M b n (.v (.string x)) = .v (.string x) := by cases n <;> rfl
theorem frz_bool (M : Mem) (b n : Nat) (x : Bool) : frz M b n (.v (.bool x)) = .v (.bool x) := by cases n <;> rfl
theorem sp1_frz (M : Mem) (b n : Nat) (sp : Bool) : (sp1 sp).map (fun r => r.map (frz M b n)) = sp1 sp := by cases sp <;> simp [sp1, frz_int]
theorem nil_frz (M : Mem) (b n : Nat) : frz M b n (.sl [] []) = .sl [] [] := by cases n <;> rfl
theorem sp7_frz (M : Mem) (b n : Nat) (sp : Bool) : (sp7 sp).map (fun r => r.map (frz M b n)) = sp7 sp := by cases sp <;> simp [sp7, spare7, frz_int, frz_str, nil_frz]
mutual
theorem cells_frz (M : Mem) (b : Nat) (sp : Bool) : ∀ (n : Nat) (x : Th), (x.cells sp).map (frz M b n) = x.cells sp
  | 0, x => by
    have : frz M b 0 = id := by funext a; rfl
    rw [this, List.map_id]
  | n + 1, .mk k y e i t ids l => by
    simp only [Th.cells, List.map_cons, List.map_nil, frz_int, frz_str]
    simp only [frz, irows_frz, sp1_frz, sp7_frz, trows_frz M b sp n l]
theorem trows_frz (M : Mem) (b : Nat) (sp : Bool) : ∀ (n : Nat) (l : List Th), (trows sp l).map (fun r => r.map (frz M b n)) = trows sp l
  | n, [] => by simp [trows]
  | n, x :: xs => by
    rw [trows, List.map_cons, cells_frz M b sp n x, trows_frz M b sp n xs]
end
theorem trows_ta (sp : Bool) (l : List Th) : (trows sp l).take l.length = trows sp l := List.take_of_length_le (by rw [trows_len]; exact Nat.le_refl _)
theorem trows_da (sp : Bool) (l : List Th) : (trows sp l).drop l.length = [] := List.drop_eq_nil_of_le (by rw [trows_len]; exact Nat.le_refl _)
theorem irows_ta (l : List Int) : (irows l).take l.length = irows l := List.take_of_length_le (by rw [irows_len]; exact Nat.le_refl _)
theorem irows_da (l : List Int) : (irows l).drop l.length = [] := List.drop_eq_nil_of_le (by rw [irows_len]; exact Nat.le_refl _)
theorem bRows_ta (l : List UInt8) : (bRows l).take l.length = bRows l := List.take_of_length_le (by rw [bRows_length]; exact Nat.le_refl _)
theorem bRows_da (l : List UInt8) : (bRows l).drop l.length = [] := List.drop_eq_nil_of_le (by rw [bRows_length]; exact Nat.le_refl _)
def i64 (x : Int) : Prop := -9223372036854775808 ≤ x ∧ x ≤ 9223372036854775807
def big : Nat := 140737488351232
mutual
/-- A value such as' a machine may hold. -/
def Th.ok : Th → Prop
  | .mk k y e i t ids l => i64 k ∧ i64 y ∧ i64 e ∧ i64 i ∧ t.length ≤ big ∧ ids.length * 8 ≤ big ∧ (∀ x ∈ ids, i64 x) ∧ l.length * 96 ≤ big ∧ oks l
def oks : List Th → Prop
  | [] => True
  | x :: xs => x.ok ∧ oks xs
end
theorem oks_mem : ∀ {l : List Th}, oks l → ∀ x ∈ l, x.ok
  | [], _, x, hx => by simp at hx
  | y :: ys, h, x, hx => by
    simp only [oks] at h
    simp only [List.mem_cons] at hx
    rcases hx with rfl | hx
    · exact h.1
    · exact oks_mem h.2 x hx
theorem oks_of {l : List Th} (h : ∀ x ∈ l, x.ok) : oks l := by
  induction l with
  | nil => trivial
  | cons x xs ih => exact ⟨h x (List.mem_cons_self ..), ih fun y hy => h y (List.mem_cons_of_mem _ hy)⟩
def Th.kind : Th → Int | .mk k _ _ _ _ _ _ => k
def Th.key : Th → Int | .mk _ k _ _ _ _ _ => k
def Th.elem : Th → Int | .mk _ _ k _ _ _ _ => k
def Th.i : Th → Int | .mk _ _ _ k _ _ _ => k
def Th.text : Th → List UInt8 | .mk _ _ _ _ k _ _ => k
def Th.ids : Th → List Int | .mk _ _ _ _ _ k _ => k
def Th.list : Th → List Th | .mk _ _ _ _ _ _ k => k
section
variable (sp : Bool) (x : Th)
theorem cells_0 : (x.cells sp)[0]? = some (.v (.int .i64 x.kind)) := by cases x; simp [Th.cells, Th.kind]
theorem cells_1 : (x.cells sp)[1]? = some (.v (.int .i64 x.key)) := by cases x; simp [Th.cells, Th.key]
theorem cells_2 : (x.cells sp)[2]? = some (.v (.int .i64 x.elem)) := by cases x; simp [Th.cells, Th.elem]
theorem cells_3 : (x.cells sp)[3]? = some (.v (.int .i64 x.i)) := by cases x; simp [Th.cells, Th.i]
theorem cells_4 : (x.cells sp)[4]? = some (.v (.string (bstr x.text))) := by cases x; simp [Th.cells, Th.text]
theorem cells_5 : (x.cells sp)[5]? = some (.sl (irows x.ids) (sp1 sp)) := by cases x; simp [Th.cells, Th.ids]
theorem cells_6 : (x.cells sp)[6]? = some (.sl (trows sp x.list) (sp7 sp)) := by cases x; simp [Th.cells, Th.list]
theorem cellg_0 (h : 0 < (x.cells sp).length) : (x.cells sp)[0]'h = (.v (.int .i64 x.kind)) := by have := cells_0 sp x; rw [List.getElem?_eq_getElem h] at this; exact Option.some.inj this
theorem cellg_1 (h : 1 < (x.cells sp).length) : (x.cells sp)[1]'h = (.v (.int .i64 x.key)) := by have := cells_1 sp x; rw [List.getElem?_eq_getElem h] at this; exact Option.some.inj this
theorem cellg_2 (h : 2 < (x.cells sp).length) : (x.cells sp)[2]'h = (.v (.int .i64 x.elem)) := by have := cells_2 sp x; rw [List.getElem?_eq_getElem h] at this; exact Option.some.inj this
theorem cellg_3 (h : 3 < (x.cells sp).length) : (x.cells sp)[3]'h = (.v (.int .i64 x.i)) := by have := cells_3 sp x; rw [List.getElem?_eq_getElem h] at this; exact Option.some.inj this
theorem cellg_4 (h : 4 < (x.cells sp).length) : (x.cells sp)[4]'h = (.v (.string (bstr x.text))) := by have := cells_4 sp x; rw [List.getElem?_eq_getElem h] at this; exact Option.some.inj this
theorem cellg_5 (h : 5 < (x.cells sp).length) : (x.cells sp)[5]'h = (.sl (irows x.ids) (sp1 sp)) := by have := cells_5 sp x; rw [List.getElem?_eq_getElem h] at this; exact Option.some.inj this
theorem cellg_6 (h : 6 < (x.cells sp).length) : (x.cells sp)[6]'h = (.sl (trows sp x.list) (sp7 sp)) := by have := cells_6 sp x; rw [List.getElem?_eq_getElem h] at this; exact Option.some.inj this
theorem cells_take : (x.cells sp).take 7 = x.cells sp := List.take_of_length_le (by rw [cells_len]; exact Nat.le_refl _)
theorem cells_keys : AV.keyss (x.cells sp) = [] := AV.keyss_of _ (cells_lt sp 0 x)
theorem cells_rens (π : Nat → Option Nat) : AV.rens π (x.cells sp) = some (x.cells sp) := AV.rens_of π _ (cells_lt sp 0 x)
theorem cells_is : x.cells sp = [.v (.int .i64 x.kind), .v (.int .i64 x.key), .v (.int .i64 x.elem), .v (.int .i64 x.i), .v (.string (bstr x.text)), .sl (irows x.ids) (sp1 sp), .sl (trows sp x.list) (sp7 sp)] := by cases x; simp [Th.cells, Th.kind, Th.key, Th.elem, Th.i, Th.text, Th.ids, Th.list]
end
theorem Th.ok_is {x : Th} (h : x.ok) : i64 x.kind ∧ i64 x.key ∧ i64 x.elem ∧ i64 x.i ∧ x.text.length ≤ 140737488351232 ∧ x.ids.length * 8 ≤ 140737488351232 ∧ (∀ y ∈ x.ids, i64 y) ∧ x.list.length * 96 ≤ 140737488351232 ∧ oks x.list := by
  cases x; simpa [Th.ok, big, Th.kind, Th.key, Th.elem, Th.i, Th.text, Th.ids, Th.list] using h
theorem list_lt (x : Th) {y : Th} (h : y ∈ x.list) : SizeOf.sizeOf y < SizeOf.sizeOf x := by
  cases x with | mk k y' e i t ids l =>
  have h : y ∈ l := h
  have := List.sizeOf_lt_of_mem h
  simp only [Th.mk.sizeOf_spec]
  omega
end Go.Proofs.Th
open Go Go.Ag
namespace Go.Proofs.Th
attribute [local simp] ec_skip ec_region ec_seq ec_cond ec_block ec_loop ec_exit ec_ret seqK_normal seqK_exit seqK_ret seqK_pan condK_true condK_false blockK_exit blockK_normal blockK_ret blockK_pan regionK_plain regionK_draw eo_nil eo_cons cutS_nil cutOf opK_is wantK_yes wantK_no stepK_ret stepK_pan endK_normal endK_ret endK_pan annotate headS wantedA evOp evOp1 evA Ag.get putT dstOK argsEnv retK resR resAll resOne constAV constCell Ctx.bss evLoad evStore AV.cells intOfAV AV.val AV.vals splice okCell okCells_nil okCells_cons finish AV.lt AV.lts AV.ltss putObj partOf restrT ltT ownOK bsOK bsOKs List.lookup_cons pr_bind pr_pure pr_guard_int pr_guard_str pr_guard_bool pr_add pr_sub pr_mul pr_eql pr_neq pr_lss pr_leq pr_gtr pr_geq pr_seql pr_sneq pr_not pr_neg pr_shl pr_shr pr_quo pr_rem pr_and pr_or pr_xor pr_conv pr_min2 pr_max2 undef callP plA plS plR plO nameP ARes.keys putObj callW callAt callKs inS outS backK reachW pickM renObjs AObj.ren AV.ren AV.rens renss renE posOf backM outK lokAt ARes.ren AV.keys AV.keyss objKeys evFieldAddr evIndexAddr evLen evFill List.range_succ Value.oneCell' evInsert mfind sameKey isKey AObj.lt Value.cells
attribute [local simp] cells_len cells_ok cells_lt trows_lt irows_lt sp1_lt sp7_lt irows_len trows_len cells_0 cells_1 cells_2 cells_3 cells_4 cells_5 cells_6 cellg_0 cellg_1 cellg_2 cellg_3 cellg_4 cellg_5 cellg_6 cells_take cells_keys cells_rens pr_lenstr bstr_size
attribute [local simp] look_mp look_mp2 look_imp look_imp2 lookV lookB intKeys cond_vint cond_vbool bits_i64 bits_u64 bits_u8 bits_i8 bits_i32 bits_u32
attribute [local simp] wrap64_in wrapu64_in wrapu8_in
attribute [local simp] fz_int fz_str fz_bool fz_float fz_nilp fz_tuple fz_nili fz_nilf fz_nilm fz_any fz_nil fz_emp fz_ptr fz_rp fz_ip fz_imp fz_agg fz_tup fz_ifc fz_fn fz_sl fzRow_row fz_so fzMap_mp fz_mp appR_row appN appX_nil appX_emp appX_so appS_some appT_some app_is bsD_some bsB_some bsA_some bs1_is bsZ0_some bsA0_some bs0_is src_sl srcR_row src_so src_str src_nil src_emp rowsOK_nil rowsOK_cons rowsOK_app
attribute [local simp] irows_frz trows_frz sp1_frz sp7_frz cells_frz irows_ok trows_ok sp1_ok sp7_ok bRows_map_frz bRows_ok bRows_lt bRows_length strRows_bstr
attribute [local simp] trows_ta trows_da irows_ta irows_da bRows_ta bRows_da
section
def C : Int := 281474976702465
end
section
theorem f64 (k : Int) : ev 146 [.v (.int .i64 k)] [] = some (.ret (.v (.bool (known k))), []) := by
  refine ev_fn Tryz.func146 rfl rfl (Nat.le_of_ble_eq_true rfl) ?_
  simp [ann, reg, Tryz.f146, f70]
  repeat' (first | ((first | rw [wantK_nm] | rw [wantK_m] | rw [condK_nm] | rw [condK_m] | rw [fWantK_nm] | rw [fWantK_m]); split) | simp [ann, reg, f70, known, holds, *])
def pbits (k : Int) : Int := bif k == 1 then 1 else bif k == 3 then 8 else bif k == 4 then 16 else bif k == 5 then 32 else bif k == 6 then 64 else bif k == 7 then 64 else 0
theorem f51 (k : Int) : ev 129 [.v (.int .i64 k)] [] = some (.ret (.v (.int .i64 (pbits k))), []) := by
  refine ev_fn Tryz.func129 rfl rfl (Nat.le_of_ble_eq_true rfl) ?_
  simp [ann, reg, Tryz.f129, pbits]
def pfits (k n : Int) : Bool := if pbits k = 0 then n == 0 else if pbits k = 1 then n.fdiv 2 == 0 else n.fdiv (2 ^ (pbits k - 1).toNat) == 0 || n.fdiv (2 ^ (pbits k - 1).toNat) == -1
theorem pbits_cases (k : Int) : pbits k = 0 ∨ pbits k = 1 ∨ pbits k = 8 ∨ pbits k = 16 ∨ pbits k = 32 ∨ pbits k = 64 := by
  unfold pbits
  cases (k == 1) <;> cases (k == 3) <;> cases (k == 4) <;> cases (k == 5) <;> cases (k == 6) <;> cases (k == 7) <;> simp
theorem f65 (k n : Int) : ev 147 [.v (.int .i64 k), .v (.int .i64 n)] [] = some (.ret (.v (.bool (pfits k n))), []) := by
  refine ev_fn Tryz.func147 rfl rfl (Nat.le_of_ble_eq_true rfl) ?_
  unfold pfits
  rcases pbits_cases k with h | h | h | h | h | h <;> simp [ann, reg, Tryz.f147, f51, h] <;> repeat' (first | ((first | rw [wantK_nm] | rw [wantK_m] | rw [condK_nm] | rw [condK_m] | rw [fWantK_nm] | rw [fWantK_m]); split) | simp [ann, reg, *])
theorem f80 (sp : Bool) (x : Th) (k : Int) : ev 158 [.agg (x.cells sp), .ptr 0 0] [.cells [.v (.int .i64 k)]] = some (.ret (.v (.bool (x.kind != k))), [.cells [.v (.int .i64 k)]]) := by
  refine ev_fn Tryz.func158 rfl rfl (Nat.le_of_ble_eq_true rfl) ?_
  simp [ann, reg, Tryz.f158]
theorem f66 : ev 148 [] [] = some (.ret (.imp [.int .i64 9, .int .i64 11, .int .i64 12] [.fn (.func 152) [] [], .fn (.func 154) [] [], .fn (.func 156) [] []]), []) := by
  refine ev_fn Tryz.func148 rfl rfl (Nat.le_of_ble_eq_true rfl) ?_
  simp [ann, reg, Tryz.f148]
end
section
theorem drop_get {α : Type} {l : List α} {j : Nat} {z : α} {zs : List α} (hd : l.drop j = z :: zs) : l[j]? = some z ∧ j < l.length ∧ l.drop (j + 1) = zs := by
  have hz : l[j]? = some z := by
    have := congrArg (fun l => l[0]?) hd
    simpa [List.getElem?_drop] using this
  exact ⟨hz, (List.getElem?_eq_some_iff.1 hz).1, by rw [← List.drop_drop, hd]; rfl⟩
def pidx (p : Th → Bool) : List Th → Int → Int
  | [], _ => -1
  | x :: xs, i => bif p x then i else pidx p xs (i + 1)
theorem pidx_neg (p : Th → Bool) : ∀ (l : List Th) (i : Int), 0 ≤ i → (decide (0 ≤ pidx p l i)) = l.any p
  | [], i, _ => by simp [pidx]
  | x :: xs, i, h => by
    unfold pidx
    cases hp : p x with
    | true => simp [hp, h]
    | false => simp [hp, pidx_neg p xs (i + 1) (by omega)]
def Says (g : FuncId) (sp : Bool) (c : List AV) (p : Th → Bool) (l : List Th) : Prop := ∀ x ∈ l, ev g [.agg (x.cells sp), .ptr 0 0] [.cells c] = some (.ret (.v (.bool (p x))), [.cells c])
theorem f79 {g : FuncId} {sp : Bool} {s : List (List AV)} {k : Int} {p : Th → Bool} {l : List Th} (hl : l.length ≤ 140737488351232) (hs : AV.ltss 0 s = true) (hp : Says g sp [.v (.int .i64 k)] p l) :
    ev 157 [.sl (trows sp l) s, .fn (.func g) [] [.ptr 0 0]] [.cells [.v (.int .i64 k)]] = some (.ret (.v (.int .i64 (pidx p l 0))), [.cells [.v (.int .i64 k)]]) := by
  refine ev_fn Tryz.func157 rfl rfl (Nat.le_of_ble_eq_true rfl) ?_
  simp [ann, reg, Tryz.f157]
  generalize hres : runLoop _ _ _ _ = res
  unfold runLoop at hres
  generalize hf : evCode _ _ _ = f at hres
  have key : ∀ (xs : List Th) (j : Nat) (T : Env), l.drop j = xs → T.lookup 0 = some (.sl (trows sp l) s) → T.lookup 1 = some (.fn (.func g) [] [.ptr 0 0]) → T.lookup 7 = some (.v (.int .i64 (l.length : Int))) → T.lookup 8 = some (.v (.int .i64 (j : Int))) →
      ∃ T' e, lpW f ⟨T, [.cells [.v (.int .i64 k)]]⟩ = some (e, ⟨T', [.cells [.v (.int .i64 k)]]⟩) ∧ ((e = .exit 0 ∧ pidx p xs j = -1) ∨ (e = .ret ∧ T'.lookup 4 = some (.v (.int .i64 (pidx p xs j))))) := by
    intro xs
    induction xs with
    | nil =>
      intro j T hd t0 t1 t7 t8
      have hj : l.length ≤ j := List.drop_eq_nil_iff.1 hd
      have hlt : ¬ (j : Int) < (l.length : Int) := by omega
      exact ⟨_, _, lpW_once (by rw [← hf]; simp [ann, reg, t0, t1, t7, t8, hlt]; (first | rfl | exact ⟨rfl, rfl⟩ | exact ⟨rfl, rfl, rfl⟩)) (by simp), .inl ⟨rfl, by simp [pidx]⟩⟩
    | cons z zs ih =>
      intro j T hd t0 t1 t7 t8
      obtain ⟨hz, hj, hd'⟩ := drop_get hd
      have hlt : (j : Int) < (l.length : Int) := by omega
      have hcall := hp z (List.mem_of_getElem? hz)
      have e3 : IntKind.i64.wrap ((j : Int) + 1) = ((j + 1 : Nat) : Int) := by rw [wrap64_in (by omega) (by omega)]; rfl
      cases hb : p z with
      | true =>
        exact ⟨_, _, lpW_once (by rw [← hf]; simp [ann, reg, t0, t1, t7, t8, hlt, trows_get hz, hcall, hb]; (first | rfl | exact ⟨rfl, rfl⟩ | exact ⟨rfl, rfl, rfl⟩)) (by simp), .inr ⟨rfl, by simp [pidx, hb]⟩⟩
      | false =>
        obtain ⟨T1, q, q0, q1, q7, q8⟩ : ∃ T1, f ⟨T, [.cells [.v (.int .i64 k)]]⟩ = some (.normal, ⟨T1, [.cells [.v (.int .i64 k)]]⟩) ∧ T1.lookup 0 = some (.sl (trows sp l) s) ∧ T1.lookup 1 = some (.fn (.func g) [] [.ptr 0 0]) ∧ T1.lookup 7 = some (.v (.int .i64 (l.length : Int))) ∧ T1.lookup 8 = some (.v (.int .i64 ((j + 1 : Nat) : Int))) :=
          ⟨_, by rw [← hf]; simp [ann, reg, t0, t1, t7, t8, hlt, trows_get hz, hcall, hb, e3]; (first | rfl | exact ⟨rfl, rfl⟩ | exact ⟨rfl, rfl, rfl⟩), by simp [t0], by simp [t1], by simp [t7], by simp⟩
        obtain ⟨T', e, r1, r2⟩ := ih (j + 1) T1 hd' q0 q1 q7 q8
        refine ⟨T', e, lpW_first q r1, ?_⟩
        have : pidx p (z :: zs) j = pidx p zs ((j + 1 : Nat) : Int) := by simp [pidx, hb]
        rw [this]; exact r2
  obtain ⟨T', e, h1, h2⟩ : ∃ T' e, res = some (e, ⟨T', [.cells [.v (.int .i64 k)]]⟩) ∧ ((e = .exit 0 ∧ pidx p l (0 : Nat) = -1) ∨ (e = .ret ∧ T'.lookup 4 = some (.v (.int .i64 (pidx p l (0 : Nat)))))) := by
    rw [← hres]
    exact key l 0 _ (by simp) (by simp) (by simp) (by simp) (by simp)
  subst h1
  rcases h2 with ⟨rfl, h2⟩ | ⟨rfl, h2⟩
  · have h2' : pidx p l 0 = -1 := h2
    simp [ann, reg, h2']
  · have h2' : T'.lookup 4 = some (.v (.int .i64 (pidx p l 0))) := h2
    simp [ann, reg, h2']
theorem f67 {g : FuncId} {sp : Bool} {s : List (List AV)} {k : Int} {p : Th → Bool} {l : List Th} (hl : l.length ≤ 140737488351232) (hs : AV.ltss 0 s = true) (hp : Says g sp [.v (.int .i64 k)] p l) :
    ev 149 [.sl (trows sp l) s, .fn (.func g) [] [.ptr 0 0]] [.cells [.v (.int .i64 k)]] = some (.ret (.v (.bool (l.any p))), [.cells [.v (.int .i64 k)]]) := by
  refine ev_fn Tryz.func149 rfl rfl (Nat.le_of_ble_eq_true rfl) ?_
  have h := f79 hl hs hp
  have h2 := pidx_neg p l 0 (by omega)
  simp [ann, reg, Tryz.f149, h, hs, h2]
def allK (k : Int) (l : List Th) : Bool := l.all fun x => x.kind == k
theorem f75 {sp : Bool} {s : List (List AV)} {k : Int} {l : List Th} (hl : l.length ≤ 140737488351232) (hs : AV.ltss 0 s = true) : ev 153 [.sl (trows sp l) s, .v (.int .i64 k)] [] = some (.ret (.v (.bool (allK k l))), []) := by
  refine ev_fn Tryz.func153 rfl rfl (Nat.le_of_ble_eq_true rfl) ?_
  have h := f67 (g := 158) (p := fun x => x.kind != k) hl hs (fun x _ => f80 sp x k)
  have e : (!l.any fun x => x.kind != k) = allK k l := by
    simp only [allK, List.not_any_eq_all_not]
    congr 1
    funext x
    simp [bne]
  simp [ann, reg, Tryz.f153, h, hs, e]
end
section
def evens : List Th → List Th
  | [] => []
  | [x] => [x]
  | x :: _ :: r => x :: evens r
theorem trows_append (sp : Bool) (a b : List Th) : trows sp (a ++ b) = trows sp a ++ trows sp b := by simp [trows_map]
theorem trows_one (sp : Bool) (x : Th) : trows sp [x] = [x.cells sp] := by simp [trows]
theorem f77 {sp : Bool} {s : List (List AV)} {l : List Th} (fr : Nat) (hl : l.length * 96 ≤ 140737488351232) (hs : AV.ltss 0 s = true) (hf0 : fr ≤ 1) : ev 155 [.sl (trows sp l) s, .v (.int .i64 (fr : Int))] [] = some (.ret (.sl (trows sp (evens (l.drop fr))) []), []) := by
  refine ev_fn Tryz.func155 rfl rfl (Nat.le_of_ble_eq_true rfl) ?_
  simp [ann, reg, Tryz.f155, nilT, isNil]
  generalize hres : runLoop _ _ _ _ = res
  unfold runLoop at hres
  generalize hf : evCode _ _ _ = f at hres
  have key : ∀ (n : Nat) (xs : List Th) (j ver : Nat) (acc : List Th) (ex : Mem) (T : Env), xs.length ≤ n → l.drop j = xs → acc.length ≤ j → j ≤ l.length + 1 → T.lookup 0 = some (.sl (trows sp l) s) → T.lookup 5 = some (.so 0 ver 0 acc.length) → T.lookup 6 = some (.v (.int .i64 (j : Int))) →
      ∃ T' ver', lpW f ⟨T, .row ver 7 (trows sp acc) :: ex⟩ = some (.exit 0, ⟨T', [.row ver' 7 (trows sp (acc ++ evens xs))]⟩) ∧ T'.lookup 5 = some (.so 0 ver' 0 (acc ++ evens xs).length) := by
    intro n
    induction n with
    | zero =>
      intro xs j ver acc ex T hn hd ha hjl t0 t5 t6
      have hx : xs = [] := List.length_eq_zero_iff.1 (by omega)
      subst hx
      have hj : l.length ≤ j := List.drop_eq_nil_iff.1 hd
      have hlt : ¬ (j : Int) < (l.length : Int) := by omega
      exact ⟨_, ver, lpW_once (by rw [← hf]; simp [ann, reg, t0, t5, t6, hlt, hs, ltss_up, evens]; (first | rfl | exact ⟨rfl, rfl⟩ | exact ⟨rfl, rfl, rfl⟩)) (by simp), by simp [evens]⟩
    | succ n ih =>
      intro xs j ver acc ex T hn hd ha hjl t0 t5 t6
      cases xs with
      | nil =>
        have hj : l.length ≤ j := List.drop_eq_nil_iff.1 hd
        have hlt : ¬ (j : Int) < (l.length : Int) := by omega
        exact ⟨_, ver, lpW_once (by rw [← hf]; simp [ann, reg, t0, t5, t6, hlt, hs, ltss_up, evens]; (first | rfl | exact ⟨rfl, rfl⟩ | exact ⟨rfl, rfl, rfl⟩)) (by simp), by simp [evens]⟩
      | cons z zs =>
        obtain ⟨hz, hj, hd'⟩ := drop_get hd
        have hlt : (j : Int) < (l.length : Int) := by omega
        have e3 : IntKind.i64.wrap ((j : Int) + 2) = ((j + 2 : Nat) : Int) := by rw [wrap64_in (by omega) (by omega)]; rfl
        have hb : (acc.length + 1) * 96 ≤ 140737488355328 := by omega
        obtain ⟨T1, M1, q, q0, q5, q6⟩ : ∃ T1 M1, f ⟨T, .row ver 7 (trows sp acc) :: ex⟩ = some (.normal, ⟨T1, .row (ver + 1) 7 (trows sp (acc ++ [z])) :: M1⟩) ∧ T1.lookup 0 = some (.sl (trows sp l) s) ∧ T1.lookup 5 = some (.so 0 (ver + 1) 0 (acc ++ [z]).length) ∧ T1.lookup 6 = some (.v (.int .i64 ((j + 2 : Nat) : Int))) :=
          ⟨_, _, by rw [← hf]; simp [ann, reg, t0, t5, t6, hlt, hs, ltss_up, trows_get hz, e3, hb, trows_append, trows_one]; (first | rfl | exact ⟨rfl, rfl⟩ | exact ⟨rfl, rfl, rfl⟩), by simp, by simp, by simp⟩
        obtain ⟨T', ver', r1, r2⟩ := ih (zs.drop 1) (j + 2) (ver + 1) (acc ++ [z]) M1 T1 (by simp at hn ⊢; omega) (by rw [← hd', List.drop_drop]) (by simp; omega) (by omega) q0 q5 q6
        have e : acc ++ [z] ++ evens (zs.drop 1) = acc ++ evens (z :: zs) := by
          cases zs <;> simp [evens]
        rw [e] at r1 r2
        exact ⟨T', ver', lpW_first q r1, r2⟩
  obtain ⟨T', ver', h1, h2⟩ : ∃ T' ver', res = some (.exit 0, ⟨T', [.row ver' 7 (trows sp ([] ++ evens (l.drop fr)))]⟩) ∧ T'.lookup 5 = some (.so 0 ver' 0 ([] ++ evens (l.drop fr)).length) := by
    rw [← hres]
    exact key _ _ fr 0 [] [] _ (Nat.le_refl _) rfl (by simp) (by omega) (by simp) (by simp) (by simp)
  subst h1
  simp only [List.nil_append] at h2
  simp [ann, reg, h2]
end
section
def sh9 (x : Th) : Bool := x.key == 0 && (x.ids.length == 0 && (known x.elem && (decide (x.list.length ≤ 65536) && allK x.elem x.list)))
theorem f74 (sp : Bool) (x : Th) (h : x.ok) : ev 152 [.agg (x.cells sp)] [] = some (.ret (.v (.bool (sh9 x))), []) := by
  obtain ⟨_, _, _, _, b1, b2, _, b3, b4⟩ := Th.ok_is h
  have h75 := f75 (sp := sp) (s := sp7 sp) (k := x.elem) (l := x.list) (by omega) (sp7_lt sp 0)
  have e1 : ((x.ids.length : Int) == 0) = (x.ids.length == 0) := by rw [Bool.eq_iff_iff]; simp
  have e2 : decide ((x.list.length : Int) ≤ 65536) = decide (x.list.length ≤ 65536) := by rw [decide_eq_decide]; omega
  refine ev_fn Tryz.func152 rfl rfl (Nat.le_of_ble_eq_true rfl) ?_
  simp [ann, reg, Tryz.f152]
  repeat' (first | ((first | rw [wantK_nm] | rw [wantK_m] | rw [condK_nm] | rw [condK_m] | rw [fWantK_nm] | rw [fWantK_m]); split) | simp [ann, reg, f64, h75, e1, e2, sh9, *])
def idsOK : List Int → Int → Bool
  | [], _ => true
  | i :: is, last => !(decide (i ≤ last) || decide (32767 < i)) && idsOK is i
def sh12 (x : Th) : Bool := idsOK x.ids 0 && (x.key == 0 && (x.elem == 0 && x.ids.length == x.list.length))
theorem f78 (sp : Bool) (x : Th) (h : x.ok) : ev 156 [.agg (x.cells sp)] [] = some (.ret (.v (.bool (sh12 x))), []) := by
  obtain ⟨_, _, _, _, b1, b2, _, b3, b4⟩ := Th.ok_is h
  refine ev_fn Tryz.func156 rfl rfl (Nat.le_of_ble_eq_true rfl) ?_
  simp [ann, reg, Tryz.f156]
  generalize hres : runLoop _ _ _ _ = res
  unfold runLoop at hres
  generalize hf : evCode _ _ _ = f at hres
  have key : ∀ (xs : List Int) (j : Nat) (last : Int) (T : Env), x.ids.drop j = xs → T.lookup 7 = some (.sl (irows x.ids) (sp1 sp)) → T.lookup 8 = some (.v (.int .i64 (x.ids.length : Int))) → T.lookup 9 = some (.v (.int .i64 (j : Int))) → T.lookup 3 = some (.v (.int .i64 last)) → T.lookup 1 = some (.ptr 0 0) →
      ∃ T' e, lpW f ⟨T, [.cells (x.cells sp)]⟩ = some (e, ⟨T', [.cells (x.cells sp)]⟩) ∧ ((e = .exit 0 ∧ idsOK xs last = true ∧ T'.lookup 1 = some (.ptr 0 0)) ∨ (e = .ret ∧ idsOK xs last = false ∧ T'.lookup 2 = some (.v (.bool false)))) := by
    intro xs
    induction xs with
    | nil =>
      intro j last T hd t7 t8 t9 t3 t1
      have hj : x.ids.length ≤ j := List.drop_eq_nil_iff.1 hd
      have hlt : ¬ (j : Int) < (x.ids.length : Int) := by omega
      exact ⟨_, _, lpW_once (by rw [← hf]; simp [ann, reg, t7, t8, t9, t3, hlt]; (first | rfl | exact ⟨rfl, rfl⟩ | exact ⟨rfl, rfl, rfl⟩)) (by simp), .inl ⟨rfl, by simp [idsOK], by simp [t1]⟩⟩
    | cons z zs ih =>
      intro j last T hd t7 t8 t9 t3 t1
      obtain ⟨hz, hj, hd'⟩ := drop_get hd
      have hlt : (j : Int) < (x.ids.length : Int) := by omega
      have e3 : IntKind.i64.wrap ((j : Int) + 1) = ((j + 1 : Nat) : Int) := by rw [wrap64_in (by omega) (by omega)]; rfl
      cases hb1 : decide (z ≤ last) with
      | true =>
        exact ⟨_, _, lpW_once (by rw [← hf]; simp [ann, reg, t7, t8, t9, t3, hlt, irows_get hz, hb1]; (first | rfl | exact ⟨rfl, rfl⟩ | exact ⟨rfl, rfl, rfl⟩)) (by simp), .inr ⟨rfl, by simp [idsOK, hb1], by simp⟩⟩
      | false =>
        cases hb2 : decide (32767 < z) with
        | true =>
          exact ⟨_, _, lpW_once (by rw [← hf]; simp [ann, reg, t7, t8, t9, t3, hlt, irows_get hz, hb1, hb2]; (first | rfl | exact ⟨rfl, rfl⟩ | exact ⟨rfl, rfl, rfl⟩)) (by simp), .inr ⟨rfl, by simp [idsOK, hb2], by simp⟩⟩
        | false =>
          obtain ⟨T1, q, q7, q8, q9, q3, q1⟩ : ∃ T1, f ⟨T, [.cells (x.cells sp)]⟩ = some (.normal, ⟨T1, [.cells (x.cells sp)]⟩) ∧ T1.lookup 7 = some (.sl (irows x.ids) (sp1 sp)) ∧ T1.lookup 8 = some (.v (.int .i64 (x.ids.length : Int))) ∧ T1.lookup 9 = some (.v (.int .i64 ((j + 1 : Nat) : Int))) ∧ T1.lookup 3 = some (.v (.int .i64 z)) ∧ T1.lookup 1 = some (.ptr 0 0) :=
            ⟨_, by rw [← hf]; simp [ann, reg, t7, t8, t9, t3, hlt, irows_get hz, hb1, hb2, e3]; (first | rfl | exact ⟨rfl, rfl⟩ | exact ⟨rfl, rfl, rfl⟩), by simp [t7], by simp [t8], by simp, by simp, by simp [t1]⟩
          obtain ⟨T', e, r1, r2⟩ := ih (j + 1) z T1 hd' q7 q8 q9 q3 q1
          refine ⟨T', e, lpW_first q r1, ?_⟩
          have : idsOK (z :: zs) last = idsOK zs z := by simp only [idsOK, hb1, hb2]; rfl
          rw [this]; exact r2
  obtain ⟨T', e, h1, h2⟩ : ∃ T' e, res = some (e, ⟨T', [.cells (x.cells sp)]⟩) ∧ ((e = .exit 0 ∧ idsOK x.ids 0 = true ∧ T'.lookup 1 = some (.ptr 0 0)) ∨ (e = .ret ∧ idsOK x.ids 0 = false ∧ T'.lookup 2 = some (.v (.bool false)))) := by
    rw [← hres]
    exact key x.ids 0 0 _ (by simp) (by simp) (by simp) (by simp) (by simp) (by simp)
  subst h1
  have e1 : ((x.ids.length : Int) == (x.list.length : Int)) = (x.ids.length == x.list.length) := by rw [Bool.eq_iff_iff]; simp; omega
  clear hf
  rcases h2 with ⟨rfl, h2, h3⟩ | ⟨rfl, h2, h3⟩
  · simp [ann, reg, sh12, h2, h3]
    repeat' (first | ((first | rw [wantK_nm] | rw [wantK_m] | rw [condK_nm] | rw [condK_m] | rw [fWantK_nm] | rw [fWantK_m]); split) | simp [ann, reg, h3, e1, *])
  · simp [ann, reg, sh12, h2, h3]
end
end Go.Proofs.Th
open Go Go.Ag
namespace Go.Proofs.Th
attribute [local simp] ec_skip ec_region ec_seq ec_cond ec_block ec_loop ec_exit ec_ret seqK_normal seqK_exit seqK_ret seqK_pan condK_true condK_false blockK_exit blockK_normal blockK_ret blockK_pan regionK_plain regionK_draw eo_nil eo_cons cutS_nil cutOf opK_is wantK_yes wantK_no stepK_ret stepK_pan endK_normal endK_ret endK_pan annotate headS wantedA evOp evOp1 evA Ag.get putT dstOK argsEnv retK resR resAll resOne constAV constCell Ctx.bss evLoad evStore AV.cells intOfAV AV.val AV.vals splice okCell okCells_nil okCells_cons finish AV.lt AV.lts AV.ltss putObj partOf restrT ltT ownOK bsOK bsOKs List.lookup_cons pr_bind pr_pure pr_guard_int pr_guard_str pr_guard_bool pr_add pr_sub pr_mul pr_eql pr_neq pr_lss pr_leq pr_gtr pr_geq pr_seql pr_sneq pr_not pr_neg pr_shl pr_shr pr_quo pr_rem pr_and pr_or pr_xor pr_conv pr_min2 pr_max2 undef callP plA plS plR plO nameP ARes.keys putObj callW callAt callKs inS outS backK reachW pickM renObjs AObj.ren AV.ren AV.rens renss renE posOf backM outK lokAt ARes.ren AV.keys AV.keyss objKeys evFieldAddr evIndexAddr evLen evFill List.range_succ Value.oneCell' evInsert mfind sameKey isKey AObj.lt Value.cells
attribute [local simp] cells_len cells_ok cells_lt trows_lt irows_lt sp1_lt sp7_lt irows_len trows_len cells_0 cells_1 cells_2 cells_3 cells_4 cells_5 cells_6 cellg_0 cellg_1 cellg_2 cellg_3 cellg_4 cellg_5 cellg_6 cells_take cells_keys cells_rens pr_lenstr bstr_size
attribute [local simp] look_mp look_mp2 look_imp look_imp2 lookV lookB intKeys cond_vint cond_vbool bits_i64 bits_u64 bits_u8 bits_i8 bits_i32 bits_u32
attribute [local simp] wrap64_in wrapu64_in wrapu8_in
attribute [local simp] fz_int fz_str fz_bool fz_float fz_nilp fz_tuple fz_nili fz_nilf fz_nilm fz_any fz_nil fz_emp fz_ptr fz_rp fz_ip fz_imp fz_agg fz_tup fz_ifc fz_fn fz_sl fzRow_row fz_so fzMap_mp fz_mp appR_row appN appX_nil appX_emp appX_so appS_some appT_some app_is bsD_some bsB_some bsA_some bs1_is bsZ0_some bsA0_some bs0_is src_sl srcR_row src_so src_str src_nil src_emp rowsOK_nil rowsOK_cons rowsOK_app
attribute [local simp] irows_frz trows_frz sp1_frz sp7_frz cells_frz irows_ok trows_ok sp1_ok sp7_ok bRows_map_frz bRows_ok bRows_lt bRows_length strRows_bstr
attribute [local simp] trows_ta trows_da irows_ta irows_da bRows_ta bRows_da
attribute [local simp] mask_F maskF merge_F mergeF d_fast evFast_is f_nil f_cons fWantK_no fWantK_yes fFp_w fFp_r fClW_t fClR_t fOpW_r fOpR_r fValW_t fValR_t fastX_some clashFree isPureFP fpOf FP.has FP.meets restr Oper.looksAt isAlloc Op.operands Call.operands List.filter_cons rank Nat.testBit reach
section
def sh11 (x : Th) : Bool :=
  bif (x.list.length : Int) == 0 then x.key == 0 && (x.elem == 0 && x.ids.length == 0)
  else x.ids.length == 0 && (known x.key && (known x.elem && (x.list.length % 2 == 0 && (decide (x.list.length / 2 ≤ 65536) && (allK x.key (evens x.list) && allK x.elem (evens x.list.tail))))))
theorem evens_len : ∀ l : List Th, (evens l).length ≤ l.length
  | [] => by simp [evens]
  | [x] => by simp [evens]
  | x :: y :: r => by have := evens_len r; simp [evens]; omega
theorem f76 (sp : Bool) (x : Th) (h : x.ok) : ev 154 [.agg (x.cells sp)] [] = some (.ret (.v (.bool (sh11 x))), []) := by
  obtain ⟨_, _, _, _, b1, b2, _, b3, b4⟩ := Th.ok_is h
  have l0 := evens_len x.list
  have l1 := evens_len (x.list.drop 1)
  rw [List.length_drop] at l1
  have h0 := f77 (sp := sp) (s := sp7 sp) (l := x.list) 0 b3 (sp7_lt sp 0) (by omega)
  have h1 := f77 (sp := sp) (s := sp7 sp) (l := x.list) 1 b3 (sp7_lt sp 0) (by omega)
  have k0 := f75 (sp := sp) (s := []) (k := x.key) (l := evens x.list) (by omega) rfl
  have k1 := f75 (sp := sp) (s := []) (k := x.elem) (l := evens (x.list.drop 1)) (by omega) rfl
  have e1 : ((x.ids.length : Int) == 0) = (x.ids.length == 0) := by rw [Bool.eq_iff_iff]; simp
  have e2 : IntKind.i64.wrap ((x.list.length : Int) / 2) = (x.list.length : Int) / 2 := wrap64_in (by omega) (by omega)
  have e3 : ((x.list.length : Int).tmod 2 == 0) = (x.list.length % 2 == 0) := by rw [Int.tmod_eq_emod_of_nonneg (by omega), Bool.eq_iff_iff]; simp; omega
  have e4 : decide ((x.list.length : Int) / 2 ≤ 65536) = decide (x.list.length / 2 ≤ 65536) := by rw [decide_eq_decide]; omega
  simp only [List.drop_zero, Int.natCast_zero, Int.natCast_one] at h0 h1
  rw [List.drop_one] at h1 k1
  have hb := bef_154_3
  simp [Tryz.f154, opsOf] at hb
  refine ev_fn Tryz.func154 rfl rfl (Nat.le_of_ble_eq_true rfl) ?_
  simp [ann, reg, Tryz.f154]
  repeat' (first | ((first | rw [wantK_nm] | rw [wantK_m] | rw [condK_nm] | rw [condK_m] | rw [fWantK_nm] | rw [fWantK_m]); split) | simp [ann, reg, hb, f64, h0, h1, k0, k1, e1, e2, e3, e4, sh11, *])
end
section
def base (x : Th) : Bool := known x.kind && (pfits x.kind x.i && (!(x.kind != 8 && x.text != []) && !decide (1048576 < x.text.length)))
def shape (x : Th) : Bool := bif x.kind == 9 then sh9 x else bif x.kind == 11 then sh11 x else sh12 x
def leaf (x : Th) : Bool := x.key == 0 && (x.elem == 0 && (x.ids.length == 0 && x.list.length == 0))
mutual
def mayM : Th → Int → Bool
  | .mk k y e i t ids l, deep => base (.mk k y e i t ids l) && (bif holds k then decide (0 < deep) && (shape (.mk k y e i t ids l) && mays l (deep - 1)) else leaf (.mk k y e i t ids l))
def mays : List Th → Int → Bool
  | [], _ => true
  | x :: xs, d => mayM x d && mays xs d
end
theorem mays_all (d : Int) : ∀ l : List Th, mays l d = l.all fun z => mayM z d
  | [] => by simp [mays]
  | x :: xs => by simp [mays, mays_all d xs]
theorem mayM_is (x : Th) (deep : Int) : mayM x deep = (base x && (bif holds x.kind then decide (0 < deep) && (shape x && x.list.all fun z => mayM z (deep - 1)) else leaf x)) := by
  cases x
  simp only [mayM, mays_all, Th.kind, Th.list]
theorem f68 (sp : Bool) (z : Th) (deep : Int) (h1 : -100 ≤ deep) (h2 : deep ≤ 100) (h33 : ev 120 [.agg (z.cells sp), .v (.int .i64 (deep - 1))] [] = some (.ret (.v (.bool (mayM z (deep - 1)))), [])) :
    ev 150 [.agg (z.cells sp), .ptr 0 0] [.cells [.v (.int .i64 deep)]] = some (.ret (.v (.bool (!mayM z (deep - 1)))), [.cells [.v (.int .i64 deep)]]) := by
  have e : IntKind.i64.wrap (deep - 1) = deep - 1 := wrap64_in (by omega) (by omega)
  refine ev_fn Tryz.func150 rfl rfl (Nat.le_of_ble_eq_true rfl) ?_
  simp [ann, reg, Tryz.f150, e, h33]
theorem beq_false_of {k n : Int} (h : ¬ k = n) : (k == n) = false := by simpa using h
theorem empty_toList : (ByteArray.mk #[]).toList = [] := bstr_toList []
theorem f33 (sp : Bool) (N : Nat) : ∀ (x : Th) (deep : Int), SizeOf.sizeOf x < N → x.ok → -100 ≤ deep → deep ≤ 100 → ev 120 [.agg (x.cells sp), .v (.int .i64 deep)] [] = some (.ret (.v (.bool (mayM x deep))), []) := by
  induction N with
  | zero => intro x deep h; omega
  | succ N ih =>
    intro x deep hN hok d0 d1
    obtain ⟨_, _, _, _, b1, b2, _, b3, b4⟩ := Th.ok_is hok
    have e1 : decide ((1048576 : Int) < (x.text.length : Int)) = decide (1048576 < x.text.length) := by rw [decide_eq_decide]; omega
    have e2 : ((x.ids.length : Int) == 0) = (x.ids.length == 0) := by rw [Bool.eq_iff_iff]; simp
    have e3 : ((x.list.length : Int) == 0) = (x.list.length == 0) := by rw [Bool.eq_iff_iff]; simp
    have h67 : 0 < deep → ev 149 [.sl (trows sp x.list) (sp7 sp), .fn (.func 150) [] [.ptr 0 0]] [.cells [.v (.int .i64 deep)]] = some (.ret (.v (.bool (x.list.any fun z => !mayM z (deep - 1)))), [.cells [.v (.int .i64 deep)]]) := fun hd =>
      f67 (by omega) (sp7_lt sp 0) (fun z hz => f68 sp z deep d0 d1 (ih z (deep - 1) (by have := list_lt x hz; omega) (oks_mem b4 z hz) (by omega) (by omega)))
    have e4 : (!x.list.any fun z => !mayM z (deep - 1)) = x.list.all fun z => mayM z (deep - 1) := by simp [List.not_any_eq_all_not]
    have h74 := f74 sp x hok
    have h76 := f76 sp x hok
    have h78 := f78 sp x hok
    rw [mayM_is]
    have hb := bef_120_3
    simp [Tryz.f120, opsOf] at hb
    refine ev_fn Tryz.func120 rfl rfl (Nat.le_of_ble_eq_true rfl) ?_
    by_cases hd : 0 < deep
    · have h67' := h67 hd
      by_cases k9 : x.kind = 9
      · simp [ann, reg, Tryz.f120, k9, f64, known, f65]
        repeat' (first | ((first | rw [wantK_nm] | rw [wantK_m] | rw [condK_nm] | rw [condK_m] | rw [fWantK_nm] | rw [fWantK_m]); split) | simp [ann, reg, hb, f66, f65, h74, h67', e1, e2, e3, e4, bstr_toList, empty_toList, base, shape, leaf, known, holds, k9, hd, *])
      by_cases k11 : x.kind = 11
      · simp [ann, reg, Tryz.f120, k11, f64, known, f65]
        repeat' (first | ((first | rw [wantK_nm] | rw [wantK_m] | rw [condK_nm] | rw [condK_m] | rw [fWantK_nm] | rw [fWantK_m]); split) | simp [ann, reg, hb, f66, f65, h76, h67', e1, e2, e3, e4, bstr_toList, empty_toList, base, shape, leaf, known, holds, k11, hd, *])
      by_cases k12 : x.kind = 12
      · simp [ann, reg, Tryz.f120, k12, f64, known, f65]
        repeat' (first | ((first | rw [wantK_nm] | rw [wantK_m] | rw [condK_nm] | rw [condK_m] | rw [fWantK_nm] | rw [fWantK_m]); split) | simp [ann, reg, hb, f66, f65, h78, h67', e1, e2, e3, e4, bstr_toList, empty_toList, base, shape, leaf, known, holds, k12, hd, *])
      have n9 := beq_false_of k9
      have n11 := beq_false_of k11
      have n12 := beq_false_of k12
      have hh : holds x.kind = false := by simp [holds, n9, n11, n12]
      simp [ann, reg, Tryz.f120, f64, f65]
      repeat' (first | ((first | rw [wantK_nm] | rw [wantK_m] | rw [condK_nm] | rw [condK_m] | rw [fWantK_nm] | rw [fWantK_m]); split) | simp [ann, reg, hb, f64, f66, f65, e1, e2, e3, e4, bstr_toList, empty_toList, base, shape, leaf, hh, n9, n11, n12, *])
    · by_cases k9 : x.kind = 9
      · simp [ann, reg, Tryz.f120, k9, f64, known, f65]
        repeat' (first | ((first | rw [wantK_nm] | rw [wantK_m] | rw [condK_nm] | rw [condK_m] | rw [fWantK_nm] | rw [fWantK_m]); split) | simp [ann, reg, hb, f66, f65, e1, e2, e3, e4, bstr_toList, empty_toList, base, shape, leaf, known, holds, k9, hd, *])
      by_cases k11 : x.kind = 11
      · simp [ann, reg, Tryz.f120, k11, f64, known, f65]
        repeat' (first | ((first | rw [wantK_nm] | rw [wantK_m] | rw [condK_nm] | rw [condK_m] | rw [fWantK_nm] | rw [fWantK_m]); split) | simp [ann, reg, hb, f66, f65, e1, e2, e3, e4, bstr_toList, empty_toList, base, shape, leaf, known, holds, k11, hd, *])
      by_cases k12 : x.kind = 12
      · simp [ann, reg, Tryz.f120, k12, f64, known, f65]
        repeat' (first | ((first | rw [wantK_nm] | rw [wantK_m] | rw [condK_nm] | rw [condK_m] | rw [fWantK_nm] | rw [fWantK_m]); split) | simp [ann, reg, hb, f66, f65, e1, e2, e3, e4, bstr_toList, empty_toList, base, shape, leaf, known, holds, k12, hd, *])
      have n9 := beq_false_of k9
      have n11 := beq_false_of k11
      have n12 := beq_false_of k12
      have hh : holds x.kind = false := by simp [holds, n9, n11, n12]
      simp [ann, reg, Tryz.f120, f64, f65]
      repeat' (first | ((first | rw [wantK_nm] | rw [wantK_m] | rw [condK_nm] | rw [condK_m] | rw [fWantK_nm] | rw [fWantK_m]); split) | simp [ann, reg, hb, f64, f66, f65, e1, e2, e3, e4, bstr_toList, empty_toList, base, shape, leaf, hh, n9, n11, n12, *])
end
section
theorem f42 (k : Int) : ev 137 [.v (.int .i64 k)] [] = some (.ret (.v (.bool (k == 1 || (decide (3 ≤ k) && decide (k ≤ 9)) || k == 11 || k == 12))), []) := by
  refine ev_fn Tryz.func137 rfl rfl (Nat.le_of_ble_eq_true rfl) ?_
  simp [ann, reg, Tryz.f137]
  repeat' (first | ((first | rw [wantK_nm] | rw [wantK_m] | rw [condK_nm] | rw [condK_m] | rw [fWantK_nm] | rw [fWantK_m]); split) | simp [ann, reg, Bool.or_assoc, *])
theorem known_is (k : Int) : known k = (k == 1 || (decide (3 ≤ k) && decide (k ≤ 9)) || k == 11 || k == 12) := by
  rw [Bool.eq_iff_iff]
  simp [known]
  omega
theorem f42' (k : Int) : ev 137 [.v (.int .i64 k)] [] = some (.ret (.v (.bool (known k))), []) := by rw [known_is]; exact f42 k
theorem f47 (k : Int) : ev 138 [.v (.int .i64 k)] [] = some (.ret (.v (.bool (decide (9 ≤ k)))), []) := by
  refine ev_fn Tryz.func138 rfl rfl (Nat.le_of_ble_eq_true rfl) ?_
  simp [ann, reg, Tryz.f138]
def rbits (k : Int) : Int := bif k == 3 then 8 else bif k == 4 then 16 else bif k == 5 then 32 else 64
theorem f46 (k : Int) : ev 140 [.v (.int .i64 k)] [] = some (.ret (.v (.int .i64 (rbits k))), []) := by
  refine ev_fn Tryz.func140 rfl rfl (Nat.le_of_ble_eq_true rfl) ?_
  simp [ann, reg, Tryz.f140, rbits]
  repeat' (first | ((first | rw [wantK_nm] | rw [wantK_m] | rw [condK_nm] | rw [condK_m] | rw [fWantK_nm] | rw [fWantK_m]); split) | simp [ann, reg, *])
def rfits (n k : Int) : Bool := if rbits k = 64 then true else decide (-(2 ^ (rbits k - 1).toNat) ≤ n) && decide (n < 2 ^ (rbits k - 1).toNat)
def num (k : Int) : Bool := k == 1 || (decide (3 ≤ k) && decide (k ≤ 7))
def bare (x : Th) : Bool :=
  (((((num x.kind || x.i == 0) && (x.kind == 8 || x.text == [])) && ((x.kind == 9 || x.kind == 11) || x.elem == 0)) && (x.kind == 11 || x.key == 0)) && (x.kind == 12 || x.ids.length == 0)) && (decide (9 ≤ x.kind) || x.list.length == 0)
theorem known_cases {k : Int} (h : known k = true) : k = 1 ∨ k = 3 ∨ k = 4 ∨ k = 5 ∨ k = 6 ∨ k = 7 ∨ k = 8 ∨ k = 9 ∨ k = 11 ∨ k = 12 := by
  simpa [known] using h
end
end Go.Proofs.Th
open Go Go.Ag
namespace Go.Proofs.Th
attribute [local simp] ec_skip ec_region ec_seq ec_cond ec_block ec_loop ec_exit ec_ret seqK_normal seqK_exit seqK_ret seqK_pan condK_true condK_false blockK_exit blockK_normal blockK_ret blockK_pan regionK_plain regionK_draw eo_nil eo_cons cutS_nil cutOf opK_is wantK_yes wantK_no stepK_ret stepK_pan endK_normal endK_ret endK_pan annotate headS wantedA evOp evOp1 evA Ag.get putT dstOK argsEnv retK resR resAll resOne constAV constCell Ctx.bss evLoad evStore AV.cells intOfAV AV.val AV.vals splice okCell okCells_nil okCells_cons finish AV.lt AV.lts AV.ltss putObj partOf restrT ltT ownOK bsOK bsOKs List.lookup_cons pr_bind pr_pure pr_guard_int pr_guard_str pr_guard_bool pr_add pr_sub pr_mul pr_eql pr_neq pr_lss pr_leq pr_gtr pr_geq pr_seql pr_sneq pr_not pr_neg pr_shl pr_shr pr_quo pr_rem pr_and pr_or pr_xor pr_conv pr_min2 pr_max2 undef callP plA plS plR plO nameP ARes.keys putObj callW callAt callKs inS outS backK reachW pickM renObjs AObj.ren AV.ren AV.rens renss renE posOf backM outK lokAt ARes.ren AV.keys AV.keyss objKeys evFieldAddr evIndexAddr evLen evFill List.range_succ Value.oneCell' evInsert mfind sameKey isKey AObj.lt Value.cells
attribute [local simp] cells_len cells_ok cells_lt trows_lt irows_lt sp1_lt sp7_lt irows_len trows_len cells_0 cells_1 cells_2 cells_3 cells_4 cells_5 cells_6 cellg_0 cellg_1 cellg_2 cellg_3 cellg_4 cellg_5 cellg_6 cells_take cells_keys cells_rens pr_lenstr bstr_size
attribute [local simp] look_mp look_mp2 look_imp look_imp2 lookV lookB intKeys cond_vint cond_vbool bits_i64 bits_u64 bits_u8 bits_i8 bits_i32 bits_u32
attribute [local simp] wrap64_in wrapu64_in wrapu8_in
attribute [local simp] fz_int fz_str fz_bool fz_float fz_nilp fz_tuple fz_nili fz_nilf fz_nilm fz_any fz_nil fz_emp fz_ptr fz_rp fz_ip fz_imp fz_agg fz_tup fz_ifc fz_fn fz_sl fzRow_row fz_so fzMap_mp fz_mp appR_row appN appX_nil appX_emp appX_so appS_some appT_some app_is bsD_some bsB_some bsA_some bs1_is bsZ0_some bsA0_some bs0_is src_sl srcR_row src_so src_str src_nil src_emp rowsOK_nil rowsOK_cons rowsOK_app
attribute [local simp] irows_frz trows_frz sp1_frz sp7_frz cells_frz irows_ok trows_ok sp1_ok sp7_ok bRows_map_frz bRows_ok bRows_lt bRows_length strRows_bstr
attribute [local simp] trows_ta trows_da irows_ta irows_da bRows_ta bRows_da
section
def rwant (x : Th) (j : Nat) : Int := if x.kind = 11 ∧ j % 2 = 0 then x.key else x.elem
def rkl (x : Th) : List Th → Nat → Bool
  | [], _ => true
  | z :: zs, j => (x.kind == 12 || z.kind == rwant x j) && rkl x zs (j + 1)
def kinds (x : Th) : Bool :=
  bif x.kind == 9 then known x.elem && decide (x.list.length ≤ 65536) && rkl x x.list 0
  else bif x.kind == 11 then (bif x.list.length == 0 then x.key == 0 && x.elem == 0 else known x.elem && known x.key && !(x.list.length % 2 == 1) && decide (x.list.length / 2 ≤ 65536) && rkl x x.list 0)
  else true
end
end Go.Proofs.Th
open Go Go.Ag
namespace Go.Proofs.Th
attribute [local simp] ec_skip ec_region ec_seq ec_cond ec_block ec_loop ec_exit ec_ret seqK_normal seqK_exit seqK_ret seqK_pan condK_true condK_false blockK_exit blockK_normal blockK_ret blockK_pan regionK_plain regionK_draw eo_nil eo_cons cutS_nil cutOf opK_is wantK_yes wantK_no stepK_ret stepK_pan endK_normal endK_ret endK_pan annotate headS wantedA evOp evOp1 evA Ag.get putT dstOK argsEnv retK resR resAll resOne constAV constCell Ctx.bss evLoad evStore AV.cells intOfAV AV.val AV.vals splice okCell okCells_nil okCells_cons finish AV.lt AV.lts AV.ltss putObj partOf restrT ltT ownOK bsOK bsOKs List.lookup_cons pr_bind pr_pure pr_guard_int pr_guard_str pr_guard_bool pr_add pr_sub pr_mul pr_eql pr_neq pr_lss pr_leq pr_gtr pr_geq pr_seql pr_sneq pr_not pr_neg pr_shl pr_shr pr_quo pr_rem pr_and pr_or pr_xor pr_conv pr_min2 pr_max2 undef callP plA plS plR plO nameP ARes.keys putObj callW callAt callKs inS outS backK reachW pickM renObjs AObj.ren AV.ren AV.rens renss renE posOf backM outK lokAt ARes.ren AV.keys AV.keyss objKeys evFieldAddr evIndexAddr evLen evFill List.range_succ Value.oneCell' evInsert mfind sameKey isKey AObj.lt Value.cells
attribute [local simp] cells_len cells_ok cells_lt trows_lt irows_lt sp1_lt sp7_lt irows_len trows_len cells_0 cells_1 cells_2 cells_3 cells_4 cells_5 cells_6 cellg_0 cellg_1 cellg_2 cellg_3 cellg_4 cellg_5 cellg_6 cells_take cells_keys cells_rens pr_lenstr bstr_size
attribute [local simp] look_mp look_mp2 look_imp look_imp2 lookV lookB intKeys cond_vint cond_vbool bits_i64 bits_u64 bits_u8 bits_i8 bits_i32 bits_u32
attribute [local simp] wrap64_in wrapu64_in wrapu8_in
attribute [local simp] fz_int fz_str fz_bool fz_float fz_nilp fz_tuple fz_nili fz_nilf fz_nilm fz_any fz_nil fz_emp fz_ptr fz_rp fz_ip fz_imp fz_agg fz_tup fz_ifc fz_fn fz_sl fzRow_row fz_so fzMap_mp fz_mp appR_row appN appX_nil appX_emp appX_so appS_some appT_some app_is bsD_some bsB_some bsA_some bs1_is bsZ0_some bsA0_some bs0_is src_sl srcR_row src_so src_str src_nil src_emp rowsOK_nil rowsOK_cons rowsOK_app
attribute [local simp] irows_frz trows_frz sp1_frz sp7_frz cells_frz irows_ok trows_ok sp1_ok sp7_ok bRows_map_frz bRows_ok bRows_lt bRows_length strRows_bstr
attribute [local simp] trows_ta trows_da irows_ta irows_da bRows_ta bRows_da
attribute [local simp] mask_F maskF merge_F mergeF d_fast evFast_is f_nil f_cons fWantK_no fWantK_yes fFp_w fFp_r fClW_t fClR_t fOpW_r fOpR_r fValW_t fValR_t fastX_some clashFree isPureFP fpOf FP.has FP.meets restr Oper.looksAt isAlloc Op.operands Call.operands List.filter_cons rank Nat.testBit reach
section
def rbase (x : Th) : Bool := known x.kind && bare x && kinds x && rfits x.i x.kind && decide (x.text.length ≤ 1048576)
def rmore (x : Th) : Bool := !(x.kind == 1 && (decide (x.i < 0) || decide (1 < x.i))) && !(x.kind == 12 && x.ids.length != x.list.length)
mutual
def rmayM : Th → Int → Bool
  | .mk k y e i t ids l, deep => rbase (.mk k y e i t ids l) && (rmore (.mk k y e i t ids l) && (idsOK ids 0 && (!(decide (9 ≤ k) && decide (deep ≤ 0)) && rmays l (deep - 1))))
def rmays : List Th → Int → Bool
  | [], _ => true
  | x :: xs, d => rmayM x d && rmays xs d
end
theorem rmayM_is (x : Th) (deep : Int) : rmayM x deep = (rbase x && (rmore x && (idsOK x.ids 0 && (!(decide (9 ≤ x.kind) && decide (deep ≤ 0)) && rmays x.list (deep - 1))))) := by
  cases x
  simp only [rmayM, Th.kind, Th.list, Th.ids]
  rfl
theorem rmays_all (d : Int) : ∀ l : List Th, rmays l d = l.all fun z => rmayM z d
  | [] => by simp [rmays]
  | x :: xs => by simp [rmays, rmays_all d xs]
end
end Go.Proofs.Th
/- THRIFT: what may be: program and reference say the same. No program in sight. -/
open Go Go.Ag
namespace Go.Proofs.Th
theorem fdiv_in (n : Int) (m : Int) (hm : 0 < m) : (n.fdiv m == 0 || n.fdiv m == -1) = (decide (-m ≤ n) && decide (n < m)) := by
  have e : n.fdiv m = n / m := Int.fdiv_eq_ediv_of_nonneg _ (by omega)
  rw [e, Bool.eq_iff_iff]
  simp
  have h1 := Int.mul_ediv_add_emod n m
  have h2 := Int.emod_nonneg n (by omega : m ≠ 0)
  have h3 := Int.emod_lt_of_pos n hm
  constructor
  · rintro (h | h) <;> rw [h] at h1 <;> omega
  · rintro ⟨ha, hb⟩
    by_cases hn : 0 ≤ n
    · left; exact Int.ediv_eq_zero_of_lt hn hb
    · right
      have g1 : n / m < 0 := Int.ediv_neg_of_neg_of_pos (by omega) hm
      have g2 : -1 ≤ n / m := by
        rw [Int.le_ediv_iff_mul_le hm]; omega
      omega
end Go.Proofs.Th
/- THRIFT: bytes of numbers: plain. -/
open Go Go.Ag
namespace Go.Proofs.Th
def byteOf (n : Int) : UInt8 := UInt8.ofNat (n % 256).toNat
theorem wrapu8_is (n : Int) : IntKind.u8.wrap n = ((byteOf n).toNat : Int) := by
  rw [IntKind.wrap_u8, byteOf]
  simp
  omega
theorem byteOf_congr {a b : Int} (h : a % 256 = b % 256) : byteOf a = byteOf b := by rw [byteOf, byteOf, h]
def numb (n : Nat) : List UInt8 := if n < 128 then [byteOf n] else byteOf (128 + n % 128) :: numb (n / 128)
termination_by n
decreasing_by omega
def zig (n : Int) : Nat := if n < 0 then (2 * (-(n + 1)) + 1).toNat else (2 * n).toNat
theorem or8 (b : BitVec 8) : (b ||| 128#8).toNat = 128 + b.toNat % 128 := by revert b; decide +kernel
theorem bOr_u8 (n : Int) : bOr .u8 ((byteOf n).toNat : Int) 128 = ((byteOf (128 + n % 128)).toNat : Int) := by
  have e : (BitVec.ofInt 8 ((byteOf n).toNat : Int)).toNat = (byteOf n).toNat := by
    have := (byteOf n).toNat_lt
    simp
  have h : (BitVec.ofInt 8 ((byteOf n).toNat : Int) ||| BitVec.ofInt 8 128).toNat = 128 + (byteOf n).toNat % 128 := by
    have := or8 (BitVec.ofInt 8 ((byteOf n).toNat : Int)); rw [e] at this; exact this
  show IntKind.u8.wrap (((BitVec.ofInt 8 ((byteOf n).toNat : Int) ||| BitVec.ofInt 8 128).toNat : Nat) : Int) = _
  rw [h, wrapu8_is]
  congr 2
  apply byteOf_congr
  have : ((byteOf n).toNat : Int) = n % 256 := by rw [← wrapu8_is, IntKind.wrap_u8]
  omega
theorem bXor_zig (n : Int) (h : i64 n) : bXor .u64 (IntKind.u64.wrap (IntKind.u64.wrap n * 2)) (IntKind.u64.wrap (n.fdiv 9223372036854775808)) = (zig n : Int) := by
  obtain ⟨h1, h2⟩ := h
  rw [Int.fdiv_eq_ediv_of_nonneg _ (by omega)]
  by_cases hn : n < 0
  · have e : n / 9223372036854775808 = -1 := by omega
    rw [e]
    unfold bXor
    have e1 : (BitVec.ofInt IntKind.u64.bits (IntKind.u64.wrap (-1)) : BitVec 64) = BitVec.allOnes 64 := by rw [IntKind.wrap_u64]; rfl
    have e2 : IntKind.u64.wrap (IntKind.u64.wrap n * 2) = (n * 2) % 18446744073709551616 := by rw [IntKind.wrap_u64, IntKind.wrap_u64]; omega
    rw [e1, e2]
    show IntKind.u64.wrap (((BitVec.ofInt 64 ((n * 2) % 18446744073709551616) ^^^ BitVec.allOnes 64).toNat : Nat) : Int) = _
    rw [BitVec.xor_allOnes, BitVec.toNat_not, BitVec.toNat_ofInt, IntKind.wrap_u64]
    simp [zig, hn]
    omega
  · have e : n / 9223372036854775808 = 0 := by omega
    rw [e]
    unfold bXor
    have e1 : (BitVec.ofInt IntKind.u64.bits (IntKind.u64.wrap 0) : BitVec 64) = 0#64 := by rw [IntKind.wrap_u64]; rfl
    have e2 : IntKind.u64.wrap (IntKind.u64.wrap n * 2) = (n * 2) % 18446744073709551616 := by rw [IntKind.wrap_u64, IntKind.wrap_u64]; omega
    rw [e1, e2]
    show IntKind.u64.wrap (((BitVec.ofInt 64 ((n * 2) % 18446744073709551616) ^^^ 0#64).toNat : Nat) : Int) = _
    rw [BitVec.xor_zero, BitVec.toNat_ofInt, IntKind.wrap_u64]
    simp [zig, hn]
    omega
theorem bOr_16 {a e : Int} (h0 : 0 ≤ a) (h1 : a < 288230376151711744) (h2 : 0 ≤ e) (h3 : e < 16) : bOr .i64 (a * 16) e = a * 16 + e := by
  obtain ⟨a, rfl⟩ := Int.eq_ofNat_of_zero_le h0
  obtain ⟨e, rfl⟩ := Int.eq_ofNat_of_zero_le h2
  unfold bOr
  show IntKind.i64.wrap (((BitVec.ofInt 64 ((a : Int) * 16) ||| BitVec.ofInt 64 (e : Int)).toNat : Nat) : Int) = _
  have g : (BitVec.ofInt 64 ((a : Int) * 16) ||| BitVec.ofInt 64 (e : Int)).toNat = a * 16 + e := by
    rw [BitVec.toNat_or]
    have g1 : (BitVec.ofInt 64 ((a : Int) * 16)).toNat = a * 16 := by simp; omega
    have g2 : (BitVec.ofInt 64 (e : Int)).toNat = e := by simp; omega
    rw [g1, g2]
    have := Nat.shiftLeft_add_eq_or_of_lt (i := 4) (b := e) (by omega) a
    rw [Nat.shiftLeft_eq] at this
    simpa using this.symm
  rw [g]
  rw [wrap64_in (by omega) (by omega)]
  omega
end Go.Proofs.Th
open Go Go.Ag
namespace Go.Proofs.Th
attribute [local simp] ec_skip ec_region ec_seq ec_cond ec_block ec_loop ec_exit ec_ret seqK_normal seqK_exit seqK_ret seqK_pan condK_true condK_false blockK_exit blockK_normal blockK_ret blockK_pan regionK_plain regionK_draw eo_nil eo_cons cutS_nil cutOf opK_is wantK_yes wantK_no stepK_ret stepK_pan endK_normal endK_ret endK_pan annotate headS wantedA evOp evOp1 evA Ag.get putT dstOK argsEnv retK resR resAll resOne constAV constCell Ctx.bss evLoad evStore AV.cells intOfAV AV.val AV.vals splice okCell okCells_nil okCells_cons finish AV.lt AV.lts AV.ltss putObj partOf restrT ltT ownOK bsOK bsOKs List.lookup_cons pr_bind pr_pure pr_guard_int pr_guard_str pr_guard_bool pr_add pr_sub pr_mul pr_eql pr_neq pr_lss pr_leq pr_gtr pr_geq pr_seql pr_sneq pr_not pr_neg pr_shl pr_shr pr_quo pr_rem pr_and pr_or pr_xor pr_conv pr_min2 pr_max2 undef callP plA plS plR plO nameP ARes.keys putObj callW callAt callKs inS outS backK reachW pickM renObjs AObj.ren AV.ren AV.rens renss renE posOf backM outK lokAt ARes.ren AV.keys AV.keyss objKeys evFieldAddr evIndexAddr evLen evFill List.range_succ Value.oneCell' evInsert mfind sameKey isKey AObj.lt Value.cells
attribute [local simp] cells_len cells_ok cells_lt trows_lt irows_lt sp1_lt sp7_lt irows_len trows_len cells_0 cells_1 cells_2 cells_3 cells_4 cells_5 cells_6 cellg_0 cellg_1 cellg_2 cellg_3 cellg_4 cellg_5 cellg_6 cells_take cells_keys cells_rens pr_lenstr bstr_size
attribute [local simp] look_mp look_mp2 look_imp look_imp2 lookV lookB intKeys cond_vint cond_vbool bits_i64 bits_u64 bits_u8 bits_i8 bits_i32 bits_u32
attribute [local simp] wrap64_in wrapu64_in wrapu8_in
attribute [local simp] fz_int fz_str fz_bool fz_float fz_nilp fz_tuple fz_nili fz_nilf fz_nilm fz_any fz_nil fz_emp fz_ptr fz_rp fz_ip fz_imp fz_agg fz_tup fz_ifc fz_fn fz_sl fzRow_row fz_so fzMap_mp fz_mp appR_row appN appX_nil appX_emp appX_so appS_some appT_some app_is bsD_some bsB_some bsA_some bs1_is bsZ0_some bsA0_some bs0_is src_sl srcR_row src_so src_str src_nil src_emp rowsOK_nil rowsOK_cons rowsOK_app
attribute [local simp] irows_frz trows_frz sp1_frz sp7_frz cells_frz irows_ok trows_ok sp1_ok sp7_ok bRows_map_frz bRows_ok bRows_lt bRows_length strRows_bstr
attribute [local simp] trows_ta trows_da irows_ta irows_da bRows_ta bRows_da
section
attribute [local simp] pr_conv
def W (ver : Nat) (bs : List UInt8) : Mem := [.cells [.so 1 ver 0 bs.length], .row ver 1 (bRows bs)]
theorem bRows_app (a b : List UInt8) : bRows (a ++ b) = bRows a ++ bRows b := by simp [bRows]
theorem bRows_one (b : UInt8) : bRows [b] = [[.v (.int .u8 b.toNat)]] := by simp [bRows]
@[simp] theorem bRows_keys (l : List UInt8) : (bRows l).flatMap AV.keyss = [] := by
  induction l with
  | nil => rfl
  | cons b l ih => simp only [bRows, List.map_cons, List.flatMap_cons]; rw [show (l.map fun b : UInt8 => [AV.v (.int .u8 b.toNat)]) = bRows l from rfl, ih]; rfl
@[simp] theorem bRows_renss (π : Nat → Option Nat) (l : List UInt8) : renss π (bRows l) = some (bRows l) := by
  induction l with
  | nil => rfl
  | cons b l ih =>
    show renss π ([AV.v (.int .u8 b.toNat)] :: bRows l) = _
    unfold renss
    rw [ih]
    rfl
theorem ev_fnX {P : Program} {ann : FuncId → AnnF} {f : FuncId} {fn : Func} {code : Code} {args : List AV} {M : Mem} {α : Type} {r : α → ARes × Mem} (hf : P.funcs[f]? = some fn) (hb : fn.body = some code) (hd : hasDefer code = false) (h : args.length ≤ fn.ntmps)
    (hr : ∃ v, endK P fn.results.toList (ann f).fin M.length (evCode ⟨P, callW P ann, fn.ntmps, M.length, [], 0, (ann f).reg⟩ lpW code ⟨argsEnv 0 args, M⟩) = some (r v)) (ho : (ann f).off = false := by rfl) : ∃ v, evW P ann f args M = some (r v) := by
  obtain ⟨v, h1⟩ := hr
  exact ⟨v, ev_fn hf hb hd h h1 ho⟩
theorem f38 (ver : Nat) (bs : List UInt8) (b : Int) (h : bs.length ≤ 1000000000) : ev 121 [.ptr 0 0, .v (.int .i64 b)] (W ver bs) = some (.ret (.tup []), W (ver + 1) (bs ++ [byteOf b])) := by
  have e1 : bs.length + 1 ≤ 140737488355328 := by omega
  refine ev_fn Tryz.func121 rfl rfl (Nat.le_of_ble_eq_true rfl) ?_
  simp [ann, reg, Tryz.f121, W, wrapu8_is, bRows_app, bRows_one, e1]
end
section
attribute [local simp] pr_conv
theorem numb_lt {n : Nat} (h : n < 128) : numb n = [byteOf n] := by rw [numb]; simp [h]
theorem numb_ge {n : Nat} (h : ¬ n < 128) : numb n = byteOf (128 + n % 128) :: numb (n / 128) := by rw [numb]; simp [h]
theorem numb_len (n : Nat) : 1 ≤ (numb n).length := by
  unfold numb
  split <;> simp
theorem f40 (ver : Nat) (bs : List UInt8) (n : Nat) (hn : n < 18446744073709551616) (h : bs.length + (numb n).length ≤ 1000000000) : ∃ ver', ev 123 [.ptr 0 0, .v (.int .u64 (n : Int))] (W ver bs) = some (.ret (.tup []), W ver' (bs ++ numb n)) := by
  refine ev_fnX Tryz.func123 rfl rfl (Nat.le_of_ble_eq_true rfl) ?_
  simp [ann, reg, Tryz.f123, W]
  generalize hres : runLoop _ _ _ _ = res
  unfold runLoop at hres
  generalize hf : evCode _ _ _ = f at hres
  have key : ∀ (N n ver : Nat) (bs : List UInt8) (T : Env) (ex : Mem), n < N → n < 18446744073709551616 → bs.length + (numb n).length ≤ 1000000000 → T.lookup 0 = some (.ptr 0 0) → T.lookup 1 = some (.v (.int .u64 (n : Int))) →
      ∃ (T' : Env) (ver' m : Nat) (bs' : List UInt8), lpW f ⟨T, .cells [.so 1 ver 0 bs.length] :: .row ver 1 (bRows bs) :: ex⟩ = some (.exit 0, ⟨T', W ver' bs'⟩) ∧ m < 128 ∧ bs' ++ [byteOf m] = bs ++ numb n ∧ T'.lookup 0 = some (.ptr 0 0) ∧ T'.lookup 1 = some (.v (.int .u64 (m : Int))) := by
    intro N
    induction N with
    | zero => intro n ver bs T ex h; omega
    | succ N ih =>
      intro n ver bs T ex hN hn hl t0 t1
      by_cases h1 : n < 128
      · have h2 : ¬ ((128 : Int) ≤ (n : Int)) := by omega
        exact ⟨_, ver, n, bs, lpW_once (by rw [← hf]; simp [ann, reg, W, t0, t1, h2]; (first | rfl | exact ⟨rfl, rfl⟩ | exact ⟨rfl, rfl, rfl⟩)) (by simp), h1, by rw [numb_lt h1], by simp [t0], by simp [t1]⟩
      · have h2 : ((128 : Int) ≤ (n : Int)) := by omega
        have h3 := numb_len n
        have h4 : bs.length + 1 ≤ 140737488355328 := by omega
        have h5 : (n : Int).fdiv 128 = (n : Int) / 128 := Int.fdiv_eq_ediv_of_nonneg _ (by omega)
        obtain ⟨T1, M1, q, q0, q1⟩ : ∃ T1 M1, f ⟨T, .cells [.so 1 ver 0 bs.length] :: .row ver 1 (bRows bs) :: ex⟩ = some (.normal, ⟨T1, .cells [.so 1 (ver + 1) 0 (bs ++ [byteOf (128 + n % 128)]).length] :: .row (ver + 1) 1 (bRows (bs ++ [byteOf (128 + n % 128)])) :: M1⟩) ∧ T1.lookup 0 = some (.ptr 0 0) ∧ T1.lookup 1 = some (.v (.int .u64 ((n / 128 : Nat) : Int))) :=
          ⟨_, _, by rw [← hf]; simp [ann, reg, W, t0, t1, h2, wrapu8_is, bOr_u8, bRows_app, bRows_one, h4, h5]; (first | rfl | exact ⟨rfl, rfl⟩ | exact ⟨rfl, rfl, rfl⟩), by simp, by simp [h5]⟩
        rw [numb_ge h1] at hl
        simp at hl
        obtain ⟨T', ver', m, bs', r1, r2, r3, r4, r5⟩ := ih (n / 128) (ver + 1) (bs ++ [byteOf (128 + n % 128)]) T1 M1 (by omega) (by omega) (by simp; omega) q0 q1
        exact ⟨T', ver', m, bs', lpW_first q r1, r2, by rw [r3, numb_ge h1]; simp, r4, r5⟩
  obtain ⟨T', ver', m, bs', g1, g2, g3, g4, g5⟩ : ∃ (T' : Env) (ver' m : Nat) (bs' : List UInt8), res = some (.exit 0, ⟨T', W ver' bs'⟩) ∧ m < 128 ∧ bs' ++ [byteOf m] = bs ++ numb n ∧ T'.lookup 0 = some (.ptr 0 0) ∧ T'.lookup 1 = some (.v (.int .u64 (m : Int))) := by
    rw [← hres]
    exact key _ n ver bs _ [] (Nat.lt_succ_self n) hn h (by simp) (by simp)
  subst g1
  have h6 := congrArg List.length g3
  simp at h6
  have h4 : bs'.length + 1 ≤ 140737488355328 := by omega
  clear hf key
  refine ⟨ver' + 1, ?_⟩
  rw [← g3]
  simp [ann, reg, W, g4, g5, wrapu8_is, bRows_app, bRows_one, h4]
  exact h6
end
section
attribute [local simp] pr_conv
def eight (i : Int) : List UInt8 := (List.range 8).map fun j => byteOf (i.fdiv (2 ^ (8 * j)))
def pre (x : Th) : List UInt8 :=
  bif x.kind == 1 then [byteOf (2 - x.i)] else bif x.kind == 3 then [byteOf x.i] else bif x.kind == 4 || (x.kind == 5 || x.kind == 6) then numb (zig x.i) else bif x.kind == 7 then eight x.i
  else bif x.kind == 8 then numb x.text.length ++ x.text
  else bif x.kind == 11 then numb (x.list.length / 2) ++ (bif x.list.length == 0 then [] else [byteOf (x.key * 16 + x.elem)])
  else byteOf ((min x.list.length 15 : Nat) * 16 + x.elem) :: (bif decide (15 ≤ x.list.length) then numb x.list.length else [])
def tkind (x : Th) : Int := bif x.kind == 1 then 2 - x.i else x.kind
def fhead (x : Th) (id last : Int) : List UInt8 := bif decide (id - last ≤ 15) then [byteOf ((id - last) * 16 + tkind x)] else byteOf (tkind x) :: numb (zig id)
mutual
def wr : Th → List UInt8
  | .mk k y e i t ids l => bif k == 12 then wfs l ids 0 ++ [byteOf 0] else pre (.mk k y e i t ids l) ++ wrs l
def wrs : List Th → List UInt8
  | [] => []
  | x :: xs => wr x ++ wrs xs
def wfs : List Th → List Int → Int → List UInt8
  | [], _, _ => []
  | _ :: _, [], _ => []
  | x :: xs, id :: ids, last => fhead x id last ++ ((bif x.kind == 1 then [] else wr x) ++ wfs xs ids id)
end
theorem wr_is (x : Th) : wr x = bif x.kind == 12 then wfs x.list x.ids 0 ++ [byteOf 0] else pre x ++ wrs x.list := by
  cases x
  simp only [wr, Th.kind, Th.list, Th.ids]
theorem f39 (ver : Nat) (bs : List UInt8) (n : Int) (hn : i64 n) (h : bs.length + (numb (zig n)).length ≤ 1000000000) : ∃ ver', ev 122 [.ptr 0 0, .v (.int .i64 n)] (W ver bs) = some (.ret (.tup []), W ver' (bs ++ numb (zig n))) := by
  obtain ⟨hn1, hn2⟩ := hn
  obtain ⟨v1, h40⟩ := f40 ver bs (zig n) (by unfold zig; split <;> omega) h
  have e1 := bXor_zig n ⟨hn1, hn2⟩
  unfold W at h40
  refine ⟨v1, ?_⟩
  refine ev_fn Tryz.func122 rfl rfl (Nat.le_of_ble_eq_true rfl) ?_
  simp [ann, reg, Tryz.f122, W, e1, h40]
end
section
attribute [local simp] pr_conv
def Good1 (z : Th) : Prop := known z.kind = true ∧ (z.kind = 1 → 0 ≤ z.i ∧ z.i ≤ 1)
def Writes (sp : Bool) (z : Th) : Prop := ∀ (ver : Nat) (bs : List UInt8), bs.length + (wr z).length ≤ 1000000000 → ∃ ver', ev 100 [.ptr 0 0, .agg (z.cells sp)] (W ver bs) = some (.ret (.tup []), W ver' (bs ++ wr z))
theorem tkind_in {z : Th} (h : Good1 z) : 1 ≤ tkind z ∧ tkind z ≤ 12 := by
  obtain ⟨h1, h2⟩ := h
  rcases known_cases h1 with k | k | k | k | k | k | k | k | k | k <;> simp [tkind, k]
  have := h2 k
  omega
theorem f41 (sp : Bool) (x : Th) (hok : x.ok) (hlen : x.ids.length = x.list.length) (hids : idsOK x.ids 0 = true) (hgood : ∀ z ∈ x.list, Good1 z) (H : ∀ z ∈ x.list, Writes sp z)
    (ver : Nat) (bs : List UInt8) (h : bs.length + ((wfs x.list x.ids 0).length + 1) ≤ 1000000000) :
    ∃ ver', ev 124 [.ptr 0 0, .agg (x.cells sp)] (W ver bs) = some (.ret (.tup []), W ver' (bs ++ (wfs x.list x.ids 0 ++ [byteOf 0]))) := by
  obtain ⟨_, _, _, _, b1, b2, _, b3, b4⟩ := Th.ok_is hok
  refine ev_fnX Tryz.func124 rfl rfl (Nat.le_of_ble_eq_true rfl) ?_
  simp [ann, reg, Tryz.f124, W]
  generalize hres : runLoop _ _ _ _ = res
  unfold runLoop at hres
  generalize hf : evCode _ _ _ = f at hres
  have key : ∀ (xs : List Th) (is : List Int) (j : Nat) (last : Int) (ver : Nat) (bs : List UInt8) (T : Env) (ex : Mem), x.list.drop j = xs → x.ids.drop j = is → idsOK is last = true → 0 ≤ last → last ≤ 32767 → bs.length + ((wfs xs is last).length + 1) ≤ 1000000000 →
      T.lookup 0 = some (.ptr 0 0) → T.lookup 3 = some (.ptr 2 0) → T.lookup 4 = some (.v (.int .i64 last)) → T.lookup 10 = some (.sl (trows sp x.list) (sp7 sp)) → T.lookup 11 = some (.v (.int .i64 (x.list.length : Int))) → T.lookup 12 = some (.v (.int .i64 (j : Int))) →
      ∃ (T' : Env) (ver' : Nat), lpW f ⟨T, .cells [.so 1 ver 0 bs.length] :: .row ver 1 (bRows bs) :: .cells (x.cells sp) :: ex⟩ = some (.exit 0, ⟨T', [.cells [.so 1 ver' 0 (bs ++ wfs xs is last).length], .row ver' 1 (bRows (bs ++ wfs xs is last)), .cells (x.cells sp)]⟩) ∧ T'.lookup 0 = some (.ptr 0 0) := by
    intro xs
    induction xs with
    | nil =>
      intro is j last ver bs T ex hd hdi hi l0 l1 hl t0 t3 t4 t10 t11 t12
      have hj : x.list.length ≤ j := List.drop_eq_nil_iff.1 hd
      have hlt : ¬ (j : Int) < (x.list.length : Int) := by omega
      exact ⟨_, ver, lpW_once (by rw [← hf]; simp [ann, reg, t0, t3, t4, t10, t11, t12, hlt, wfs]; (first | rfl | exact ⟨rfl, rfl⟩ | exact ⟨rfl, rfl, rfl⟩)) (by simp), by simp [t0]⟩
    | cons z zs ih =>
      intro is j last ver bs T ex hd hdi hi l0 l1 hl t0 t3 t4 t10 t11 t12
      obtain ⟨hz, hj, hd'⟩ := drop_get hd
      cases is with
      | nil => have := List.drop_eq_nil_iff.1 hdi; omega
      | cons id is =>
        obtain ⟨hzi, hji, hdi'⟩ := drop_get hdi
        have hlt : (j : Int) < (x.list.length : Int) := by omega
        have hm := List.mem_of_getElem? hz
        have hg := hgood z hm
        obtain ⟨k1, k2⟩ := tkind_in hg
        simp only [idsOK, Bool.and_eq_true, Bool.not_eq_true', Bool.or_eq_false_iff, decide_eq_false_iff_not] at hi
        obtain ⟨⟨i1, i2⟩, i3⟩ := hi
        have e3 : IntKind.i64.wrap ((j : Int) + 1) = ((j + 1 : Nat) : Int) := by rw [wrap64_in (by omega) (by omega)]; rfl
        have w1 : IntKind.i64.wrap (id - last) = id - last := wrap64_in (by omega) (by omega)
        have w2 : IntKind.i64.wrap ((id - last) * 16) = (id - last) * 16 := wrap64_in (by omega) (by omega)
        have w3 := bOr_16 (a := id - last) (e := tkind z) (by omega) (by omega) (by omega) (by omega)
        have w4 : z.kind = 1 → IntKind.i64.wrap (2 - z.i) = 2 - z.i := fun e => by have := hg.2 e; exact wrap64_in (by omega) (by omega)
        simp only [wfs, List.length_append] at hl
        -- the head
        obtain ⟨T1, v1, M1, q, q0, q3, q4, q10, q11, q12⟩ : ∃ (T1 : Env) (v1 : Nat) (M1 : Mem), f ⟨T, .cells [.so 1 ver 0 bs.length] :: .row ver 1 (bRows bs) :: .cells (x.cells sp) :: ex⟩ = some (.normal, ⟨T1, .cells [.so 1 v1 0 (bs ++ (fhead z id last ++ (bif z.kind == 1 then [] else wr z))).length] :: .row v1 1 (bRows (bs ++ (fhead z id last ++ (bif z.kind == 1 then [] else wr z)))) :: .cells (x.cells sp) :: M1⟩) ∧
            T1.lookup 0 = some (.ptr 0 0) ∧ T1.lookup 3 = some (.ptr 2 0) ∧ T1.lookup 4 = some (.v (.int .i64 id)) ∧ T1.lookup 10 = some (.sl (trows sp x.list) (sp7 sp)) ∧ T1.lookup 11 = some (.v (.int .i64 (x.list.length : Int))) ∧ T1.lookup 12 = some (.v (.int .i64 ((j + 1 : Nat) : Int))) := by
          by_cases hdl : id - last ≤ 15
          · have hd1 : id - last < 16 := by omega
            have hfh : fhead z id last = [byteOf ((id - last) * 16 + tkind z)] := by simp [fhead, hdl]
            rw [hfh] at hl ⊢
            have h38 := f38 ver bs ((id - last) * 16 + tkind z) (by omega)
            by_cases hk1 : z.kind = 1
            · have et : tkind z = 2 - z.i := by simp [tkind, hk1]
              have w4 := w4 hk1
              rw [et] at h38 w3 ⊢
              simp [W] at h38
              exact ⟨_, _, _, by rw [← hf]; simp [ann, reg, t0, t3, t4, t10, t11, t12, hlt, trows_get hz, irows_get hzi, w1, w2, w3, w4, e3, hk1, hd1, h38]; (first | rfl | exact ⟨rfl, rfl⟩ | exact ⟨rfl, rfl, rfl⟩), by simp [t0], by simp [t3], by simp, by simp [t10], by simp [t11], by simp⟩
            · have hk1' := beq_false_of hk1
              have hk1'' : (z.kind != 1) = true := by simp [bne, hk1']
              have et : tkind z = z.kind := by simp [tkind, hk1']
              rw [et] at h38 w3 ⊢
              simp [hk1'] at hl
              obtain ⟨v3, h25⟩ := H z hm (ver + 1) (bs ++ [byteOf ((id - last) * 16 + z.kind)]) (by simp; omega)
              simp [W] at h38 h25
              exact ⟨_, v3, _, by rw [← hf]; simp [ann, reg, t0, t3, t4, t10, t11, t12, hlt, trows_get hz, irows_get hzi, w1, w2, w3, e3, hk1', hk1'', hd1, h38, h25]; (first | rfl | exact ⟨rfl, rfl⟩ | exact ⟨rfl, rfl, rfl⟩), by simp [t0], by simp [t3], by simp, by simp [t10], by simp [t11], by simp⟩
          · have hd1 : ¬ id - last < 16 := by omega
            have hfh : fhead z id last = byteOf (tkind z) :: numb (zig id) := by simp [fhead, hdl]
            rw [hfh] at hl ⊢
            have h38 := f38 ver bs (tkind z) (by omega)
            simp at hl
            obtain ⟨v2, h39⟩ := f39 (ver + 1) (bs ++ [byteOf (tkind z)]) id ⟨by omega, by omega⟩ (by simp; omega)
            by_cases hk1 : z.kind = 1
            · have et : tkind z = 2 - z.i := by simp [tkind, hk1]
              have w4 := w4 hk1
              rw [et] at h38 h39 ⊢
              simp [W] at h38 h39
              exact ⟨_, v2, _, by rw [← hf]; simp [ann, reg, t0, t3, t4, t10, t11, t12, hlt, trows_get hz, irows_get hzi, w1, w4, e3, hk1, hd1, h38, h39]; (first | rfl | exact ⟨rfl, rfl⟩ | exact ⟨rfl, rfl, rfl⟩), by simp [t0], by simp [t3], by simp, by simp [t10], by simp [t11], by simp⟩
            · have hk1' := beq_false_of hk1
              have hk1'' : (z.kind != 1) = true := by simp [bne, hk1']
              have et : tkind z = z.kind := by simp [tkind, hk1']
              rw [et] at h38 h39 ⊢
              simp [hk1'] at hl
              obtain ⟨v3, h25⟩ := H z hm v2 (bs ++ [byteOf z.kind] ++ numb (zig id)) (by simp; omega)
              simp [W] at h38 h39 h25
              exact ⟨_, v3, _, by rw [← hf]; simp [ann, reg, t0, t3, t4, t10, t11, t12, hlt, trows_get hz, irows_get hzi, w1, e3, hk1', hk1'', hd1, h38, h39, h25]; (first | rfl | exact ⟨rfl, rfl⟩ | exact ⟨rfl, rfl, rfl⟩), by simp [t0], by simp [t3], by simp, by simp [t10], by simp [t11], by simp⟩
        obtain ⟨T', v', r1, r2⟩ := ih is (j + 1) id v1 (bs ++ (fhead z id last ++ (bif z.kind == 1 then [] else wr z))) T1 M1 hd' hdi' i3 (by omega) (by omega) (by simp only [List.length_append]; omega) q0 q3 q4 q10 q11 q12
        have e : bs ++ (fhead z id last ++ (bif z.kind == 1 then [] else wr z)) ++ wfs zs is id = bs ++ wfs (z :: zs) (id :: is) last := by simp [wfs]
        rw [e] at r1
        exact ⟨T', v', lpW_first q r1, r2⟩
  obtain ⟨T', v', g1, g2⟩ : ∃ (T' : Env) (ver' : Nat), res = some (.exit 0, ⟨T', [.cells [.so 1 ver' 0 (bs ++ wfs x.list x.ids 0).length], .row ver' 1 (bRows (bs ++ wfs x.list x.ids 0)), .cells (x.cells sp)]⟩) ∧ T'.lookup 0 = some (.ptr 0 0) := by
    rw [← hres]
    exact key x.list x.ids 0 0 ver bs _ [] rfl rfl hids (by omega) (by omega) h (by simp) (by simp) (by simp) (by simp) (by simp) (by simp)
  subst g1
  have h38 := f38 v' (bs ++ wfs x.list x.ids 0) 0 (by simp; omega)
  clear hf key
  refine ⟨v' + 1, ?_⟩
  simp [W] at h38
  simp [ann, reg, W, g2, h38]
end
end Go.Proofs.Th
open Go Go.Ag
namespace Go.Proofs.Th
attribute [local simp] ec_skip ec_region ec_seq ec_cond ec_block ec_loop ec_exit ec_ret seqK_normal seqK_exit seqK_ret seqK_pan condK_true condK_false blockK_exit blockK_normal blockK_ret blockK_pan regionK_plain regionK_draw eo_nil eo_cons cutS_nil cutOf opK_is wantK_yes wantK_no stepK_ret stepK_pan endK_normal endK_ret endK_pan annotate headS wantedA evOp evOp1 evA Ag.get putT dstOK argsEnv retK resR resAll resOne constAV constCell Ctx.bss evLoad evStore AV.cells intOfAV AV.val AV.vals splice okCell okCells_nil okCells_cons finish AV.lt AV.lts AV.ltss putObj partOf restrT ltT ownOK bsOK bsOKs List.lookup_cons pr_bind pr_pure pr_guard_int pr_guard_str pr_guard_bool pr_add pr_sub pr_mul pr_eql pr_neq pr_lss pr_leq pr_gtr pr_geq pr_seql pr_sneq pr_not pr_neg pr_shl pr_shr pr_quo pr_rem pr_and pr_or pr_xor pr_conv pr_min2 pr_max2 undef callP plA plS plR plO nameP ARes.keys putObj callW callAt callKs inS outS backK reachW pickM renObjs AObj.ren AV.ren AV.rens renss renE posOf backM outK lokAt ARes.ren AV.keys AV.keyss objKeys evFieldAddr evIndexAddr evLen evFill List.range_succ Value.oneCell' evInsert mfind sameKey isKey AObj.lt Value.cells
attribute [local simp] cells_len cells_ok cells_lt trows_lt irows_lt sp1_lt sp7_lt irows_len trows_len cells_0 cells_1 cells_2 cells_3 cells_4 cells_5 cells_6 cellg_0 cellg_1 cellg_2 cellg_3 cellg_4 cellg_5 cellg_6 cells_take cells_keys cells_rens pr_lenstr bstr_size
attribute [local simp] look_mp look_mp2 look_imp look_imp2 lookV lookB intKeys cond_vint cond_vbool bits_i64 bits_u64 bits_u8 bits_i8 bits_i32 bits_u32
attribute [local simp] wrap64_in wrapu64_in wrapu8_in
attribute [local simp] fz_int fz_str fz_bool fz_float fz_nilp fz_tuple fz_nili fz_nilf fz_nilm fz_any fz_nil fz_emp fz_ptr fz_rp fz_ip fz_imp fz_agg fz_tup fz_ifc fz_fn fz_sl fzRow_row fz_so fzMap_mp fz_mp appR_row appN appX_nil appX_emp appX_so appS_some appT_some app_is bsD_some bsB_some bsA_some bs1_is bsZ0_some bsA0_some bs0_is src_sl srcR_row src_so src_str src_nil src_emp rowsOK_nil rowsOK_cons rowsOK_app
attribute [local simp] irows_frz trows_frz sp1_frz sp7_frz cells_frz irows_ok trows_ok sp1_ok sp7_ok bRows_map_frz bRows_ok bRows_lt bRows_length strRows_bstr
attribute [local simp] trows_ta trows_da irows_ta irows_da bRows_ta bRows_da
attribute [local simp] mask_F maskF merge_F mergeF d_fast evFast_is f_nil f_cons fWantK_no fWantK_yes fFp_w fFp_r fClW_t fClR_t fOpW_r fOpR_r fValW_t fValR_t fastX_some clashFree isPureFP fpOf FP.has FP.meets restr Oper.looksAt isAlloc Op.operands Call.operands List.filter_cons rank Nat.testBit reach
section
attribute [local simp] pr_conv
theorem bare_list {x : Th} (hb : bare x = true) (hk : ¬ 9 ≤ x.kind) : x.list = [] := by
  simp [bare, hk] at hb
  exact hb.2
theorem f25_leaf (sp : Bool) (x : Th) (hok : x.ok) (hk : x.kind = 1 ∨ x.kind = 3 ∨ x.kind = 4 ∨ x.kind = 5 ∨ x.kind = 6) (hi : x.kind = 1 → 0 ≤ x.i ∧ x.i ≤ 1) (hl0 : x.list = []) : Writes sp x := by
  obtain ⟨_, _, _, hi4, b1, b2, _, b3, b4⟩ := Th.ok_is hok
  intro ver bs h
  have hw : wr x = pre x := by
    rw [wr_is, hl0]
    rcases hk with k | k | k | k | k <;> simp [k, wrs]
  rw [hw] at h ⊢
  rcases hk with k | k | k | k | k
  · have w4 : IntKind.i64.wrap (2 - x.i) = 2 - x.i := by have := hi k; exact wrap64_in (by omega) (by omega)
    have hp : pre x = [byteOf (2 - x.i)] := by simp [pre, k]
    rw [hp] at h ⊢
    have h38 := f38 ver bs (2 - x.i) (by simp at h; omega)
    simp [W] at h38
    refine ⟨ver + 1, ?_⟩
    refine ev_fn Tryz.func100 rfl rfl (Nat.le_of_ble_eq_true rfl) ?_
    simp [ann, reg, Tryz.f100, W, k, w4, h38]
    generalize hres : runLoop _ _ _ _ = res
    unfold runLoop at hres
    rw [lpW_once (by simp [ann, reg, hl0, hl0]; (first | rfl | exact ⟨rfl, rfl⟩ | exact ⟨rfl, rfl, rfl⟩)) (by simp)] at hres
    subst hres
    simp [ann, reg, W]
  · have hp : pre x = [byteOf x.i] := by simp [pre, k]
    rw [hp] at h ⊢
    have h38 := f38 ver bs x.i (by simp at h; omega)
    simp [W] at h38
    refine ⟨ver + 1, ?_⟩
    refine ev_fn Tryz.func100 rfl rfl (Nat.le_of_ble_eq_true rfl) ?_
    simp [ann, reg, Tryz.f100, W, k, h38]
    generalize hres : runLoop _ _ _ _ = res
    unfold runLoop at hres
    rw [lpW_once (by simp [ann, reg, hl0, hl0]; (first | rfl | exact ⟨rfl, rfl⟩ | exact ⟨rfl, rfl, rfl⟩)) (by simp)] at hres
    subst hres
    simp [ann, reg, W]
  all_goals
    have hp : pre x = numb (zig x.i) := by simp [pre, k]
    rw [hp] at h ⊢
    obtain ⟨v1, h39⟩ := f39 ver bs x.i hi4 h
    simp [W] at h39
    refine ⟨v1, ?_⟩
    refine ev_fn Tryz.func100 rfl rfl (Nat.le_of_ble_eq_true rfl) ?_
    simp [ann, reg, Tryz.f100, W, k, h39]
    generalize hres : runLoop _ _ _ _ = res
    unfold runLoop at hres
    rw [lpW_once (by simp [ann, reg, hl0, hl0]; (first | rfl | exact ⟨rfl, rfl⟩ | exact ⟨rfl, rfl, rfl⟩)) (by simp)] at hres
    subst hres
    simp [ann, reg, W]
theorem f25_text (sp : Bool) (x : Th) (hok : x.ok) (k : x.kind = 8) (hl0 : x.list = []) : Writes sp x := by
  obtain ⟨_, _, _, hi4, b1, b2, _, b3, b4⟩ := Th.ok_is hok
  intro ver bs h
  have hw : wr x = numb x.text.length ++ x.text := by
    rw [wr_is, hl0]
    simp [k, wrs, pre]
  rw [hw] at h ⊢
  simp at h
  obtain ⟨v1, h40⟩ := f40 ver bs x.text.length (by omega) (by omega)
  simp [W] at h40
  have hb := bef_100_18
  simp [Tryz.f100, opsOf] at hb
  have e1 : bs.length + (numb x.text.length).length + x.text.length ≤ 140737488355328 := by omega
  have e2 : IntKind.u64.wrap (x.text.length : Int) = (x.text.length : Int) := wrapu64_in (by omega) (by omega)
  refine ⟨v1 + 1, ?_⟩
  refine ev_fn Tryz.func100 rfl rfl (Nat.le_of_ble_eq_true rfl) ?_
  simp [ann, reg, Tryz.f100, W, k, h40, hb, e1, e2]
  generalize hres : runLoop _ _ _ _ = res
  unfold runLoop at hres
  rw [lpW_once (by simp [ann, reg, hl0, hl0]; (first | rfl | exact ⟨rfl, rfl⟩ | exact ⟨rfl, rfl, rfl⟩)) (by simp)] at hres
  subst hres
  simp [ann, reg, W, bRows_app]
  exact ⟨by omega, by rw [List.take_of_length_le (by simp [bRows_length])]; simp⟩
def eightG (i : Int) (j m : Nat) : List UInt8 := (List.range' j m).map fun j => byteOf (i.fdiv (2 ^ (8 * j)))
theorem eight_is (i : Int) : eight i = eightG i 0 8 := by
  unfold eight eightG
  rw [List.range_eq_range']
theorem f25_eight (sp : Bool) (x : Th) (hok : x.ok) (k : x.kind = 7) (hl0 : x.list = []) : Writes sp x := by
  obtain ⟨_, _, _, hi4, b1, b2, _, b3, b4⟩ := Th.ok_is hok
  intro ver bs h
  have hw : wr x = eightG x.i 0 8 := by
    rw [wr_is, hl0, ← eight_is]
    simp [k, wrs, pre]
  rw [hw] at h ⊢
  refine ev_fnX Tryz.func100 rfl rfl (Nat.le_of_ble_eq_true rfl) ?_
  simp [ann, reg, Tryz.f100, W, k]
  generalize hres : runLoop _ _ _ _ = res
  unfold runLoop at hres
  generalize hf : evCode _ _ _ = f at hres
  have key : ∀ (m j ver : Nat) (bs : List UInt8) (T : Env), j + m = 8 → bs.length ≤ 999999992 + j → T.lookup 0 = some (.ptr 0 0) → T.lookup 3 = some (.ptr 2 0) → T.lookup 33 = some (.v (.int .i64 (j : Int))) →
      ∃ (T' : Env), lpW f ⟨T, [.cells [.so 1 ver 0 bs.length], .row ver 1 (bRows bs), .cells (x.cells sp)]⟩ = some (.exit 1, ⟨T', [.cells [.so 1 (ver + m) 0 (bs ++ eightG x.i j m).length], .row (ver + m) 1 (bRows (bs ++ eightG x.i j m)), .cells (x.cells sp)]⟩) ∧ T'.lookup 0 = some (.ptr 0 0) ∧ T'.lookup 3 = some (.ptr 2 0) := by
    intro m
    induction m with
    | zero =>
      intro j ver bs T hj hl t0 t3 t33
      have hlt : ¬ (j : Int) < 8 := by omega
      exact ⟨_, lpW_once (by rw [← hf]; simp [ann, reg, t0, t3, t33, hlt, eightG]; (first | rfl | exact ⟨rfl, rfl⟩ | exact ⟨rfl, rfl, rfl⟩)) (by simp), by simp [t0], by simp [t3]⟩
    | succ m ih =>
      intro j ver bs T hj hl t0 t3 t33
      have hlt : (j : Int) < 8 := by omega
      have e3 : IntKind.i64.wrap ((j : Int) + 1) = ((j + 1 : Nat) : Int) := by rw [wrap64_in (by omega) (by omega)]; rfl
      have e4 : IntKind.i64.wrap (8 * (j : Int)) = 8 * (j : Int) := wrap64_in (by omega) (by omega)
      have e5 : (0 : Int) ≤ 8 * (j : Int) := by omega
      have e6 : min (8 * (j : Int)).toNat 64 = 8 * j := by omega
      have h38 := f38 ver bs (x.i.fdiv (2 ^ (8 * j))) (by omega)
      simp [W] at h38
      obtain ⟨T1, q, q0, q3, q33⟩ : ∃ (T1 : Env), f ⟨T, [.cells [.so 1 ver 0 bs.length], .row ver 1 (bRows bs), .cells (x.cells sp)]⟩ = some (.normal, ⟨T1, [.cells [.so 1 (ver + 1) 0 (bs ++ [byteOf (x.i.fdiv (2 ^ (8 * j)))]).length], .row (ver + 1) 1 (bRows (bs ++ [byteOf (x.i.fdiv (2 ^ (8 * j)))])), .cells (x.cells sp)]⟩) ∧ T1.lookup 0 = some (.ptr 0 0) ∧ T1.lookup 3 = some (.ptr 2 0) ∧ T1.lookup 33 = some (.v (.int .i64 ((j + 1 : Nat) : Int))) :=
        ⟨_, by rw [← hf]; simp [ann, reg, t0, t3, t33, hlt, e3, e4, e5, e6, h38]; (first | rfl | exact ⟨rfl, rfl⟩ | exact ⟨rfl, rfl, rfl⟩), by simp [t0], by simp [t3], by simp⟩
      obtain ⟨T', r1, r2, r3⟩ := ih (j + 1) (ver + 1) (bs ++ [byteOf (x.i.fdiv (2 ^ (8 * j)))]) T1 (by omega) (by simp; omega) q0 q3 q33
      have e7 : bs ++ [byteOf (x.i.fdiv (2 ^ (8 * j)))] ++ eightG x.i (j + 1) m = bs ++ eightG x.i j (m + 1) := by simp [eightG, List.range'_succ]
      rw [e7, show ver + 1 + m = ver + (m + 1) by omega] at r1
      exact ⟨T', lpW_first q r1, r2, r3⟩
  obtain ⟨T', g1, g2, g3⟩ : ∃ (T' : Env), res = some (.exit 1, ⟨T', [.cells [.so 1 (ver + 8) 0 (bs ++ eightG x.i 0 8).length], .row (ver + 8) 1 (bRows (bs ++ eightG x.i 0 8)), .cells (x.cells sp)]⟩) ∧ T'.lookup 0 = some (.ptr 0 0) ∧ T'.lookup 3 = some (.ptr 2 0) := by
    rw [← hres]
    exact key 8 0 ver bs _ (by omega) (by simp [eightG] at h; omega) (by simp) (by simp) (by simp)
  subst g1
  clear hf key hres
  refine ⟨ver + 8, ?_⟩
  simp [ann, reg, W, g2, g3]
  generalize hres : runLoop _ _ _ _ = res
  unfold runLoop at hres
  rw [lpW_once (by simp [ann, reg, hl0, g2, g3]; (first | rfl | exact ⟨rfl, rfl⟩ | exact ⟨rfl, rfl, rfl⟩)) (by simp)] at hres
  subst hres
  simp [ann, reg, W]
theorem f25_list (sp : Bool) (x : Th) (hok : x.ok) (k : x.kind = 9) (he : 0 ≤ x.elem ∧ x.elem < 16) (H : ∀ z ∈ x.list, Writes sp z) : Writes sp x := by
  obtain ⟨_, _, _, hi4, b1, b2, _, b3, b4⟩ := Th.ok_is hok
  intro ver bs h
  have hw : wr x = pre x ++ wrs x.list := by rw [wr_is]; simp [k]
  rw [hw] at h ⊢
  by_cases hd : 15 ≤ x.list.length
  · have hp : pre x = byteOf (240 + x.elem) :: numb x.list.length := by simp [pre, k, hd]
    rw [hp] at h ⊢
    simp at h
    have e1 : ¬ ((x.list.length : Int) < 15) := by omega
    have e1' : (if (15 : Int) < (x.list.length : Int) then (15 : Int) else (x.list.length : Int)) = 15 := by split <;> omega
    have w3 : bOr .i64 240 x.elem = 240 + x.elem := bOr_16 (a := 15) (e := x.elem) (by omega) (by omega) (by omega) (by omega)
    have h38 := f38 ver bs (240 + x.elem) (by omega)
    obtain ⟨v1, h40⟩ := f40 (ver + 1) (bs ++ [byteOf (240 + x.elem)]) x.list.length (by omega) (by simp; omega)
    have e2 : IntKind.u64.wrap (x.list.length : Int) = (x.list.length : Int) := wrapu64_in (by omega) (by omega)
    simp [W] at h38 h40
    refine ev_fnX Tryz.func100 rfl rfl (Nat.le_of_ble_eq_true rfl) ?_
    simp [ann, reg, Tryz.f100, W, k, e1', e2, w3, h38, h40]
    generalize hres : runLoop _ _ _ _ = res
    unfold runLoop at hres
    generalize hf : evCode _ _ _ = f at hres
    have key : ∀ (xs : List Th) (j ver : Nat) (bs : List UInt8) (T : Env) (ex : Mem), x.list.drop j = xs → bs.length + (wrs xs).length ≤ 1000000000 →
        T.lookup 0 = some (.ptr 0 0) → T.lookup 3 = some (.ptr 2 0) → T.lookup 110 = some (.sl (trows sp x.list) (sp7 sp)) → T.lookup 111 = some (.v (.int .i64 (x.list.length : Int))) → T.lookup 112 = some (.v (.int .i64 (j : Int))) →
        ∃ (T' : Env) (ver' : Nat), lpW f ⟨T, .cells [.so 1 ver 0 bs.length] :: .row ver 1 (bRows bs) :: .cells (x.cells sp) :: ex⟩ = some (.exit 3, ⟨T', [.cells [.so 1 ver' 0 (bs ++ wrs xs).length], .row ver' 1 (bRows (bs ++ wrs xs)), .cells (x.cells sp)]⟩) := by
      intro xs
      induction xs with
      | nil =>
        intro j ver bs T ex hd hl t0 t3 t110 t111 t112
        have hj : x.list.length ≤ j := List.drop_eq_nil_iff.1 hd
        have hlt : ¬ (j : Int) < (x.list.length : Int) := by omega
        exact ⟨_, ver, lpW_once (by rw [← hf]; simp [ann, reg, t0, t3, t110, t111, t112, hlt, wrs]; (first | rfl | exact ⟨rfl, rfl⟩ | exact ⟨rfl, rfl, rfl⟩)) (by simp)⟩
      | cons z zs ih =>
        intro j ver bs T ex hd hl t0 t3 t110 t111 t112
        obtain ⟨hz, hj, hd'⟩ := drop_get hd
        have hlt : (j : Int) < (x.list.length : Int) := by omega
        have hm := List.mem_of_getElem? hz
        have e3 : IntKind.i64.wrap ((j : Int) + 1) = ((j + 1 : Nat) : Int) := by rw [wrap64_in (by omega) (by omega)]; rfl
        simp only [wrs, List.length_append] at hl
        obtain ⟨v3, h25⟩ := H z hm ver bs (by omega)
        simp [W] at h25
        obtain ⟨T1, M1, q, q0, q3, q110, q111, q112⟩ : ∃ (T1 : Env) (M1 : Mem), f ⟨T, .cells [.so 1 ver 0 bs.length] :: .row ver 1 (bRows bs) :: .cells (x.cells sp) :: ex⟩ = some (.normal, ⟨T1, .cells [.so 1 v3 0 (bs ++ wr z).length] :: .row v3 1 (bRows (bs ++ wr z)) :: .cells (x.cells sp) :: M1⟩) ∧
            T1.lookup 0 = some (.ptr 0 0) ∧ T1.lookup 3 = some (.ptr 2 0) ∧ T1.lookup 110 = some (.sl (trows sp x.list) (sp7 sp)) ∧ T1.lookup 111 = some (.v (.int .i64 (x.list.length : Int))) ∧ T1.lookup 112 = some (.v (.int .i64 ((j + 1 : Nat) : Int))) :=
          ⟨_, _, by rw [← hf]; simp [ann, reg, t0, t3, t110, t111, t112, hlt, trows_get hz, e3, h25]; (first | rfl | exact ⟨rfl, rfl⟩ | exact ⟨rfl, rfl, rfl⟩), by simp [t0], by simp [t3], by simp [t110], by simp [t111], by simp⟩
        obtain ⟨T', v', r1⟩ := ih (j + 1) v3 (bs ++ wr z) T1 M1 hd' (by simp only [List.length_append]; omega) q0 q3 q110 q111 q112
        have e : bs ++ wr z ++ wrs zs = bs ++ wrs (z :: zs) := by simp [wrs]
        rw [e] at r1
        exact ⟨T', v', lpW_first q r1⟩
    obtain ⟨T', v', g1⟩ : ∃ (T' : Env) (ver' : Nat), res = some (.exit 3, ⟨T', [.cells [.so 1 ver' 0 (bs ++ (byteOf (240 + x.elem) :: numb x.list.length) ++ wrs x.list).length], .row ver' 1 (bRows (bs ++ (byteOf (240 + x.elem) :: numb x.list.length) ++ wrs x.list)), .cells (x.cells sp)]⟩) := by
      rw [← hres]
      rw [show bs.length + ((numb x.list.length).length + 1) = (bs ++ (byteOf (240 + x.elem) :: numb x.list.length)).length from by simp]
      exact key x.list 0 (v1) (bs ++ (byteOf (240 + x.elem) :: numb x.list.length)) _ _ rfl (by simp; omega) (by simp) (by simp) (by simp) (by simp) (by simp)
    subst g1
    clear hf key
    exact ⟨v', by simp [ann, reg, W]⟩
  · have hp : pre x = [byteOf ((x.list.length : Int) * 16 + x.elem)] := by
      have : min x.list.length 15 = x.list.length := by omega
      simp [pre, k, hd, this]
    rw [hp] at h ⊢
    simp at h
    have e1' : (if (15 : Int) < (x.list.length : Int) then (15 : Int) else (x.list.length : Int)) = (x.list.length : Int) := by split <;> omega
    have e4 : ((x.list.length : Int) == 15) = false := by simp; omega
    have e5 : IntKind.i64.wrap ((x.list.length : Int) * 16) = (x.list.length : Int) * 16 := wrap64_in (by omega) (by omega)
    have w3 := bOr_16 (a := (x.list.length : Int)) (e := x.elem) (by omega) (by omega) (by omega) (by omega)
    have h38 := f38 ver bs ((x.list.length : Int) * 16 + x.elem) (by omega)
    simp [W] at h38
    refine ev_fnX Tryz.func100 rfl rfl (Nat.le_of_ble_eq_true rfl) ?_
    simp [ann, reg, Tryz.f100, W, k, e1', e4, e5, w3, h38]
    generalize hres : runLoop _ _ _ _ = res
    unfold runLoop at hres
    generalize hf : evCode _ _ _ = f at hres
    have key : ∀ (xs : List Th) (j ver : Nat) (bs : List UInt8) (T : Env) (ex : Mem), x.list.drop j = xs → bs.length + (wrs xs).length ≤ 1000000000 →
        T.lookup 0 = some (.ptr 0 0) → T.lookup 3 = some (.ptr 2 0) → T.lookup 110 = some (.sl (trows sp x.list) (sp7 sp)) → T.lookup 111 = some (.v (.int .i64 (x.list.length : Int))) → T.lookup 112 = some (.v (.int .i64 (j : Int))) →
        ∃ (T' : Env) (ver' : Nat), lpW f ⟨T, .cells [.so 1 ver 0 bs.length] :: .row ver 1 (bRows bs) :: .cells (x.cells sp) :: ex⟩ = some (.exit 3, ⟨T', [.cells [.so 1 ver' 0 (bs ++ wrs xs).length], .row ver' 1 (bRows (bs ++ wrs xs)), .cells (x.cells sp)]⟩) := by
      intro xs
      induction xs with
      | nil =>
        intro j ver bs T ex hd hl t0 t3 t110 t111 t112
        have hj : x.list.length ≤ j := List.drop_eq_nil_iff.1 hd
        have hlt : ¬ (j : Int) < (x.list.length : Int) := by omega
        exact ⟨_, ver, lpW_once (by rw [← hf]; simp [ann, reg, t0, t3, t110, t111, t112, hlt, wrs]; (first | rfl | exact ⟨rfl, rfl⟩ | exact ⟨rfl, rfl, rfl⟩)) (by simp)⟩
      | cons z zs ih =>
        intro j ver bs T ex hd hl t0 t3 t110 t111 t112
        obtain ⟨hz, hj, hd'⟩ := drop_get hd
        have hlt : (j : Int) < (x.list.length : Int) := by omega
        have hm := List.mem_of_getElem? hz
        have e3 : IntKind.i64.wrap ((j : Int) + 1) = ((j + 1 : Nat) : Int) := by rw [wrap64_in (by omega) (by omega)]; rfl
        simp only [wrs, List.length_append] at hl
        obtain ⟨v3, h25⟩ := H z hm ver bs (by omega)
        simp [W] at h25
        obtain ⟨T1, M1, q, q0, q3, q110, q111, q112⟩ : ∃ (T1 : Env) (M1 : Mem), f ⟨T, .cells [.so 1 ver 0 bs.length] :: .row ver 1 (bRows bs) :: .cells (x.cells sp) :: ex⟩ = some (.normal, ⟨T1, .cells [.so 1 v3 0 (bs ++ wr z).length] :: .row v3 1 (bRows (bs ++ wr z)) :: .cells (x.cells sp) :: M1⟩) ∧
            T1.lookup 0 = some (.ptr 0 0) ∧ T1.lookup 3 = some (.ptr 2 0) ∧ T1.lookup 110 = some (.sl (trows sp x.list) (sp7 sp)) ∧ T1.lookup 111 = some (.v (.int .i64 (x.list.length : Int))) ∧ T1.lookup 112 = some (.v (.int .i64 ((j + 1 : Nat) : Int))) :=
          ⟨_, _, by rw [← hf]; simp [ann, reg, t0, t3, t110, t111, t112, hlt, trows_get hz, e3, h25]; (first | rfl | exact ⟨rfl, rfl⟩ | exact ⟨rfl, rfl, rfl⟩), by simp [t0], by simp [t3], by simp [t110], by simp [t111], by simp⟩
        obtain ⟨T', v', r1⟩ := ih (j + 1) v3 (bs ++ wr z) T1 M1 hd' (by simp only [List.length_append]; omega) q0 q3 q110 q111 q112
        have e : bs ++ wr z ++ wrs zs = bs ++ wrs (z :: zs) := by simp [wrs]
        rw [e] at r1
        exact ⟨T', v', lpW_first q r1⟩
    obtain ⟨T', v', g1⟩ : ∃ (T' : Env) (ver' : Nat), res = some (.exit 3, ⟨T', [.cells [.so 1 ver' 0 (bs ++ [byteOf ((x.list.length : Int) * 16 + x.elem)] ++ wrs x.list).length], .row ver' 1 (bRows (bs ++ [byteOf ((x.list.length : Int) * 16 + x.elem)] ++ wrs x.list)), .cells (x.cells sp)]⟩) := by
      rw [← hres]
      rw [show bs.length + 1 = (bs ++ [byteOf ((x.list.length : Int) * 16 + x.elem)]).length from by simp]
      exact key x.list 0 (ver + 1) (bs ++ [byteOf ((x.list.length : Int) * 16 + x.elem)]) _ _ rfl (by simp; omega) (by simp) (by simp) (by simp) (by simp) (by simp)
    subst g1
    clear hf key
    exact ⟨v', by simp [ann, reg, W]⟩
end
end Go.Proofs.Th
