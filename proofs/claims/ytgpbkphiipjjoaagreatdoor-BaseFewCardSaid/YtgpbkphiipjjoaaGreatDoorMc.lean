/- What the program's types are, as the walk over data wants them: printed by a program of this work out of the kernel's own computation, each row checked by the kernel. -/
import Derived.Test.YtgpbkphiipjjoaaGreatDoorMb5
import Derived.Test.YtgpbkphiipjjoaaGreatDoorProg
import Derived.LoopN


section
namespace Go.Proofs.YtgpbkphiipjjoaaGreatDoor.Pv
open Go
set_option maxRecDepth 100000
theorem ty_1 : tyOf Tryz.prog 1 = some { k := TK.func, size := 1, bytes := 8, zero := [D.raw Value.nilFunc], places := [] } := by kernel_rfl
theorem ty_2 : tyOf Tryz.prog 2 = some { k := TK.int Go.IntKind.i64, size := 1, bytes := 8, zero := [D.int Go.IntKind.i64 0], places := [] } := by kernel_rfl
theorem ty_3 : tyOf Tryz.prog 3 = some { k := TK.int Go.IntKind.i64, size := 1, bytes := 8, zero := [D.int Go.IntKind.i64 0], places := [] } := by kernel_rfl
theorem ty_4 : tyOf Tryz.prog 4 = some { k := TK.bool, size := 1, bytes := 1, zero := [D.bool false], places := [] } := by kernel_rfl
theorem ty_5 : tyOf Tryz.prog 5 = some { k := TK.int Go.IntKind.u8, size := 1, bytes := 1, zero := [D.int Go.IntKind.u8 0], places := [] } := by kernel_rfl
theorem ty_6 : tyOf Tryz.prog 6 = some { k := TK.int Go.IntKind.u8, size := 1, bytes := 1, zero := [D.int Go.IntKind.u8 0], places := [] } := by kernel_rfl
theorem ty_7 : tyOf Tryz.prog 7 = some { k := TK.struct [(2, 0), (3, 1), (4, 2), (6, 3)], size := 4, bytes := 24, zero := [D.int Go.IntKind.i64 0, D.int Go.IntKind.i64 0, D.bool false, D.int Go.IntKind.u8 0], places := [(0, 1), (1, 1), (2, 1), (3, 1)] } := by kernel_rfl
theorem ty_8 : tyOf Tryz.prog 8 = some { k := TK.struct [(2, 0), (3, 1), (4, 2), (6, 3)], size := 4, bytes := 24, zero := [D.int Go.IntKind.i64 0, D.int Go.IntKind.i64 0, D.bool false, D.int Go.IntKind.u8 0], places := [(0, 1), (1, 1), (2, 1), (3, 1)] } := by kernel_rfl
theorem ty_9 : tyOf Tryz.prog 9 = some { k := TK.string, size := 1, bytes := 16, zero := [D.str []], places := [] } := by kernel_rfl
theorem ty_10 : tyOf Tryz.prog 10 = some { k := TK.string, size := 1, bytes := 16, zero := [D.str []], places := [] } := by kernel_rfl
theorem ty_11 : tyOf Tryz.prog 11 = some { k := TK.string, size := 1, bytes := 16, zero := [D.str []], places := [] } := by kernel_rfl
theorem ty_12 : tyOf Tryz.prog 12 = some { k := TK.int Go.IntKind.u64, size := 1, bytes := 8, zero := [D.int Go.IntKind.u64 0], places := [] } := by kernel_rfl
theorem ty_13 : tyOf Tryz.prog 13 = some { k := TK.struct [(9, 0), (12, 1)], size := 2, bytes := 24, zero := [D.str [], D.int Go.IntKind.u64 0], places := [(0, 1), (1, 1)] } := by kernel_rfl
theorem ty_14 : tyOf Tryz.prog 14 = some { k := TK.struct [(9, 0), (12, 1)], size := 2, bytes := 24, zero := [D.str [], D.int Go.IntKind.u64 0], places := [(0, 1), (1, 1)] } := by kernel_rfl
theorem ty_15 : tyOf Tryz.prog 15 = some { k := TK.ptr 193, size := 1, bytes := 8, zero := [D.raw (Value.pointer none)], places := [] } := by kernel_rfl
theorem ty_16 : tyOf Tryz.prog 16 = some { k := TK.ptr 196, size := 1, bytes := 8, zero := [D.raw (Value.pointer none)], places := [] } := by kernel_rfl
theorem ty_17 : tyOf Tryz.prog 17 = some { k := TK.ptr 203, size := 1, bytes := 8, zero := [D.raw (Value.pointer none)], places := [] } := by kernel_rfl
theorem ty_18 : tyOf Tryz.prog 18 = some { k := TK.struct [(17, 0)], size := 1, bytes := 8, zero := [D.raw (Value.pointer none)], places := [(0, 1)] } := by kernel_rfl
theorem ty_19 : tyOf Tryz.prog 19 = some { k := TK.struct [(17, 0)], size := 1, bytes := 8, zero := [D.raw (Value.pointer none)], places := [(0, 1)] } := by kernel_rfl
theorem ty_20 : tyOf Tryz.prog 20 = some { k := TK.iface, size := 1, bytes := 16, zero := [D.raw Value.nilIface], places := [] } := by kernel_rfl
theorem ty_21 : tyOf Tryz.prog 21 = some { k := TK.int Go.IntKind.i32, size := 1, bytes := 4, zero := [D.int Go.IntKind.i32 0], places := [] } := by kernel_rfl
theorem ty_22 : tyOf Tryz.prog 22 = some { k := TK.slice 5, size := 1, bytes := 24, zero := [D.sl [] true], places := [] } := by kernel_rfl
theorem ty_23 : tyOf Tryz.prog 23 = some { k := TK.slice 49, size := 1, bytes := 24, zero := [D.sl [] true], places := [] } := by kernel_rfl
theorem ty_24 : tyOf Tryz.prog 24 = some { k := TK.slice 26, size := 1, bytes := 24, zero := [D.sl [] true], places := [] } := by kernel_rfl
theorem ty_25 : tyOf Tryz.prog 25 = some { k := TK.struct [(3, 0), (9, 1), (3, 2), (24, 3)], size := 4, bytes := 56, zero := [D.int Go.IntKind.i64 0, D.str [], D.int Go.IntKind.i64 0, D.sl [] true], places := [(0, 1), (1, 1), (2, 1), (3, 1)] } := by kernel_rfl
theorem ty_26 : tyOf Tryz.prog 26 = some { k := TK.struct [(3, 0), (9, 1), (3, 2), (24, 3)], size := 4, bytes := 56, zero := [D.int Go.IntKind.i64 0, D.str [], D.int Go.IntKind.i64 0, D.sl [] true], places := [(0, 1), (1, 1), (2, 1), (3, 1)] } := by kernel_rfl
theorem ty_27 : tyOf Tryz.prog 27 = some { k := TK.func, size := 1, bytes := 8, zero := [D.raw Value.nilFunc], places := [] } := by kernel_rfl
theorem ty_28 : tyOf Tryz.prog 28 = some { k := TK.slice 56, size := 1, bytes := 24, zero := [D.sl [] true], places := [] } := by kernel_rfl
theorem ty_29 : tyOf Tryz.prog 29 = some { k := TK.slice 88, size := 1, bytes := 24, zero := [D.sl [] true], places := [] } := by kernel_rfl
theorem ty_30 : tyOf Tryz.prog 30 = some { k := TK.slice 3, size := 1, bytes := 24, zero := [D.sl [] true], places := [] } := by kernel_rfl
theorem ty_31 : tyOf Tryz.prog 31 = some { k := TK.slice 58, size := 1, bytes := 24, zero := [D.sl [] true], places := [] } := by kernel_rfl
theorem ty_32 : tyOf Tryz.prog 32 = some { k := TK.struct [(3, 0), (28, 1), (29, 2), (30, 3), (30, 4), (30, 5), (30, 6), (31, 7)], size := 8, bytes := 176, zero := [D.int Go.IntKind.i64 0, D.sl [] true, D.sl [] true, D.sl [] true, D.sl [] true, D.sl [] true, D.sl [] true, D.sl [] true], places := [(0, 1), (1, 1), (2, 1), (3, 1), (4, 1), (5, 1), (6, 1), (7, 1)] } := by kernel_rfl
theorem ty_33 : tyOf Tryz.prog 33 = some { k := TK.struct [(3, 0), (28, 1), (29, 2), (30, 3), (30, 4), (30, 5), (30, 6), (31, 7)], size := 8, bytes := 176, zero := [D.int Go.IntKind.i64 0, D.sl [] true, D.sl [] true, D.sl [] true, D.sl [] true, D.sl [] true, D.sl [] true, D.sl [] true], places := [(0, 1), (1, 1), (2, 1), (3, 1), (4, 1), (5, 1), (6, 1), (7, 1)] } := by kernel_rfl
theorem ty_34 : tyOf Tryz.prog 34 = some { k := TK.func, size := 1, bytes := 8, zero := [D.raw Value.nilFunc], places := [] } := by kernel_rfl
theorem ty_35 : tyOf Tryz.prog 35 = some { k := TK.func, size := 1, bytes := 8, zero := [D.raw Value.nilFunc], places := [] } := by kernel_rfl
theorem ty_36 : tyOf Tryz.prog 36 = some { k := TK.int Go.IntKind.i64, size := 1, bytes := 8, zero := [D.int Go.IntKind.i64 0], places := [] } := by kernel_rfl
theorem ty_38 : tyOf Tryz.prog 38 = some { k := TK.func, size := 1, bytes := 8, zero := [D.raw Value.nilFunc], places := [] } := by kernel_rfl
theorem ty_39 : tyOf Tryz.prog 39 = some { k := TK.func, size := 1, bytes := 8, zero := [D.raw Value.nilFunc], places := [] } := by kernel_rfl
theorem ty_40 : tyOf Tryz.prog 40 = some { k := TK.func, size := 1, bytes := 8, zero := [D.raw Value.nilFunc], places := [] } := by kernel_rfl
theorem ty_41 : tyOf Tryz.prog 41 = some { k := TK.func, size := 1, bytes := 8, zero := [D.raw Value.nilFunc], places := [] } := by kernel_rfl
theorem ty_42 : tyOf Tryz.prog 42 = some { k := TK.func, size := 1, bytes := 8, zero := [D.raw Value.nilFunc], places := [] } := by kernel_rfl
theorem ty_43 : tyOf Tryz.prog 43 = some { k := TK.func, size := 1, bytes := 8, zero := [D.raw Value.nilFunc], places := [] } := by kernel_rfl
theorem ty_44 : tyOf Tryz.prog 44 = some { k := TK.func, size := 1, bytes := 8, zero := [D.raw Value.nilFunc], places := [] } := by kernel_rfl
theorem ty_45 : tyOf Tryz.prog 45 = some { k := TK.func, size := 1, bytes := 8, zero := [D.raw Value.nilFunc], places := [] } := by kernel_rfl
theorem ty_46 : tyOf Tryz.prog 46 = some { k := TK.func, size := 1, bytes := 8, zero := [D.raw Value.nilFunc], places := [] } := by kernel_rfl
theorem ty_47 : tyOf Tryz.prog 47 = some { k := TK.func, size := 1, bytes := 8, zero := [D.raw Value.nilFunc], places := [] } := by kernel_rfl
theorem ty_48 : tyOf Tryz.prog 48 = some { k := TK.slice 9, size := 1, bytes := 24, zero := [D.sl [] true], places := [] } := by kernel_rfl
theorem ty_49 : tyOf Tryz.prog 49 = some { k := TK.int Go.IntKind.u16, size := 1, bytes := 2, zero := [D.int Go.IntKind.u16 0], places := [] } := by kernel_rfl
theorem ty_50 : tyOf Tryz.prog 50 = some { k := TK.struct [(3, 0), (29, 1)], size := 2, bytes := 32, zero := [D.int Go.IntKind.i64 0, D.sl [] true], places := [(0, 1), (1, 1)] } := by kernel_rfl
theorem ty_51 : tyOf Tryz.prog 51 = some { k := TK.struct [(3, 0), (29, 1)], size := 2, bytes := 32, zero := [D.int Go.IntKind.i64 0, D.sl [] true], places := [(0, 1), (1, 1)] } := by kernel_rfl
theorem ty_53 : tyOf Tryz.prog 53 = some { k := TK.func, size := 1, bytes := 8, zero := [D.raw Value.nilFunc], places := [] } := by kernel_rfl
theorem ty_54 : tyOf Tryz.prog 54 = some { k := TK.func, size := 1, bytes := 8, zero := [D.raw Value.nilFunc], places := [] } := by kernel_rfl
theorem ty_55 : tyOf Tryz.prog 55 = some { k := TK.struct [(3, 0), (3, 1)], size := 2, bytes := 16, zero := [D.int Go.IntKind.i64 0, D.int Go.IntKind.i64 0], places := [(0, 1), (1, 1)] } := by kernel_rfl
theorem ty_56 : tyOf Tryz.prog 56 = some { k := TK.struct [(3, 0), (3, 1)], size := 2, bytes := 16, zero := [D.int Go.IntKind.i64 0, D.int Go.IntKind.i64 0], places := [(0, 1), (1, 1)] } := by kernel_rfl
theorem ty_57 : tyOf Tryz.prog 57 = some { k := TK.struct [(5, 0), (3, 1), (9, 2)], size := 3, bytes := 32, zero := [D.int Go.IntKind.u8 0, D.int Go.IntKind.i64 0, D.str []], places := [(0, 1), (1, 1), (2, 1)] } := by kernel_rfl
theorem ty_58 : tyOf Tryz.prog 58 = some { k := TK.struct [(5, 0), (3, 1), (9, 2)], size := 3, bytes := 32, zero := [D.int Go.IntKind.u8 0, D.int Go.IntKind.i64 0, D.str []], places := [(0, 1), (1, 1), (2, 1)] } := by kernel_rfl
theorem ty_59 : tyOf Tryz.prog 59 = some { k := TK.func, size := 1, bytes := 8, zero := [D.raw Value.nilFunc], places := [] } := by kernel_rfl
theorem ty_60 : tyOf Tryz.prog 60 = some { k := TK.func, size := 1, bytes := 8, zero := [D.raw Value.nilFunc], places := [] } := by kernel_rfl
theorem ty_61 : tyOf Tryz.prog 61 = some { k := TK.func, size := 1, bytes := 8, zero := [D.raw Value.nilFunc], places := [] } := by kernel_rfl
theorem ty_62 : tyOf Tryz.prog 62 = some { k := TK.map 3 82, size := 1, bytes := 8, zero := [D.raw (Value.map none)], places := [] } := by kernel_rfl
theorem ty_63 : tyOf Tryz.prog 63 = some { k := TK.func, size := 1, bytes := 8, zero := [D.raw Value.nilFunc], places := [] } := by kernel_rfl
theorem ty_65 : tyOf Tryz.prog 65 = some { k := TK.func, size := 1, bytes := 8, zero := [D.raw Value.nilFunc], places := [] } := by kernel_rfl
theorem ty_66 : tyOf Tryz.prog 66 = some { k := TK.func, size := 1, bytes := 8, zero := [D.raw Value.nilFunc], places := [] } := by kernel_rfl
theorem ty_67 : tyOf Tryz.prog 67 = some { k := TK.map 21 3, size := 1, bytes := 8, zero := [D.raw (Value.map none)], places := [] } := by kernel_rfl
theorem ty_68 : tyOf Tryz.prog 68 = some { k := TK.func, size := 1, bytes := 8, zero := [D.raw Value.nilFunc], places := [] } := by kernel_rfl
theorem ty_69 : tyOf Tryz.prog 69 = some { k := TK.func, size := 1, bytes := 8, zero := [D.raw Value.nilFunc], places := [] } := by kernel_rfl
theorem ty_70 : tyOf Tryz.prog 70 = some { k := TK.func, size := 1, bytes := 8, zero := [D.raw Value.nilFunc], places := [] } := by kernel_rfl
theorem ty_71 : tyOf Tryz.prog 71 = some { k := TK.func, size := 1, bytes := 8, zero := [D.raw Value.nilFunc], places := [] } := by kernel_rfl
theorem ty_72 : tyOf Tryz.prog 72 = some { k := TK.func, size := 1, bytes := 8, zero := [D.raw Value.nilFunc], places := [] } := by kernel_rfl
theorem ty_73 : tyOf Tryz.prog 73 = some { k := TK.func, size := 1, bytes := 8, zero := [D.raw Value.nilFunc], places := [] } := by kernel_rfl
theorem ty_74 : tyOf Tryz.prog 74 = some { k := TK.array 4 30, size := 4, bytes := 96, zero := [D.sl [] true, D.sl [] true, D.sl [] true, D.sl [] true], places := [(0, 1), (1, 1), (2, 1), (3, 1)] } := by kernel_rfl
theorem ty_75 : tyOf Tryz.prog 75 = some { k := TK.func, size := 1, bytes := 8, zero := [D.raw Value.nilFunc], places := [] } := by kernel_rfl
theorem ty_76 : tyOf Tryz.prog 76 = some { k := TK.func, size := 1, bytes := 8, zero := [D.raw Value.nilFunc], places := [] } := by kernel_rfl
theorem ty_77 : tyOf Tryz.prog 77 = some { k := TK.func, size := 1, bytes := 8, zero := [D.raw Value.nilFunc], places := [] } := by kernel_rfl
theorem ty_78 : tyOf Tryz.prog 78 = some { k := TK.func, size := 1, bytes := 8, zero := [D.raw Value.nilFunc], places := [] } := by kernel_rfl
theorem ty_80 : tyOf Tryz.prog 80 = some { k := TK.func, size := 1, bytes := 8, zero := [D.raw Value.nilFunc], places := [] } := by kernel_rfl
theorem ty_81 : tyOf Tryz.prog 81 = some { k := TK.func, size := 1, bytes := 8, zero := [D.raw Value.nilFunc], places := [] } := by kernel_rfl
theorem ty_82 : tyOf Tryz.prog 82 = some { k := TK.func, size := 1, bytes := 8, zero := [D.raw Value.nilFunc], places := [] } := by kernel_rfl
theorem ty_84 : tyOf Tryz.prog 84 = some { k := TK.func, size := 1, bytes := 8, zero := [D.raw Value.nilFunc], places := [] } := by kernel_rfl
theorem ty_85 : tyOf Tryz.prog 85 = some { k := TK.func, size := 1, bytes := 8, zero := [D.raw Value.nilFunc], places := [] } := by kernel_rfl
theorem ty_86 : tyOf Tryz.prog 86 = some { k := TK.func, size := 1, bytes := 8, zero := [D.raw Value.nilFunc], places := [] } := by kernel_rfl
theorem ty_87 : tyOf Tryz.prog 87 = some { k := TK.func, size := 1, bytes := 8, zero := [D.raw Value.nilFunc], places := [] } := by kernel_rfl
theorem ty_88 : tyOf Tryz.prog 88 = some { k := TK.array 2 3, size := 2, bytes := 16, zero := [D.int Go.IntKind.i64 0, D.int Go.IntKind.i64 0], places := [(0, 1), (1, 1)] } := by kernel_rfl
theorem ty_89 : tyOf Tryz.prog 89 = some { k := TK.func, size := 1, bytes := 8, zero := [D.raw Value.nilFunc], places := [] } := by kernel_rfl
theorem ty_90 : tyOf Tryz.prog 90 = some { k := TK.ptr 105, size := 1, bytes := 8, zero := [D.raw (Value.pointer none)], places := [] } := by kernel_rfl
theorem ty_91 : tyOf Tryz.prog 91 = some { k := TK.struct [], size := 0, bytes := 0, zero := [], places := [] } := by kernel_rfl
theorem ty_92 : tyOf Tryz.prog 92 = some { k := TK.struct [], size := 0, bytes := 0, zero := [], places := [] } := by kernel_rfl
theorem ty_93 : tyOf Tryz.prog 93 = some { k := TK.struct [], size := 0, bytes := 0, zero := [], places := [] } := by kernel_rfl
theorem ty_94 : tyOf Tryz.prog 94 = some { k := TK.int Go.IntKind.u32, size := 1, bytes := 4, zero := [D.int Go.IntKind.u32 0], places := [] } := by kernel_rfl
theorem ty_95 : tyOf Tryz.prog 95 = some { k := TK.struct [(93, 0), (94, 0)], size := 1, bytes := 4, zero := [D.int Go.IntKind.u32 0], places := [(0, 0), (0, 1)] } := by kernel_rfl
theorem ty_96 : tyOf Tryz.prog 96 = some { k := TK.struct [(93, 0), (94, 0)], size := 1, bytes := 4, zero := [D.int Go.IntKind.u32 0], places := [(0, 0), (0, 1)] } := by kernel_rfl
theorem ty_97 : tyOf Tryz.prog 97 = some { k := TK.struct [(21, 0), (94, 1)], size := 2, bytes := 8, zero := [D.int Go.IntKind.i32 0, D.int Go.IntKind.u32 0], places := [(0, 1), (1, 1)] } := by kernel_rfl
theorem ty_98 : tyOf Tryz.prog 98 = some { k := TK.struct [(21, 0), (94, 1)], size := 2, bytes := 8, zero := [D.int Go.IntKind.i32 0, D.int Go.IntKind.u32 0], places := [(0, 1), (1, 1)] } := by kernel_rfl
theorem ty_99 : tyOf Tryz.prog 99 = some { k := TK.struct [(92, 0), (98, 0)], size := 2, bytes := 8, zero := [D.int Go.IntKind.i32 0, D.int Go.IntKind.u32 0], places := [(0, 0), (0, 2)] } := by kernel_rfl
theorem ty_100 : tyOf Tryz.prog 100 = some { k := TK.struct [(92, 0), (98, 0)], size := 2, bytes := 8, zero := [D.int Go.IntKind.i32 0, D.int Go.IntKind.u32 0], places := [(0, 0), (0, 2)] } := by kernel_rfl
theorem ty_101 : tyOf Tryz.prog 101 = some { k := TK.struct [(92, 0), (96, 0), (100, 1)], size := 3, bytes := 12, zero := [D.int Go.IntKind.u32 0, D.int Go.IntKind.i32 0, D.int Go.IntKind.u32 0], places := [(0, 0), (0, 1), (1, 2)] } := by kernel_rfl
theorem ty_102 : tyOf Tryz.prog 102 = some { k := TK.struct [(92, 0), (96, 0), (100, 1)], size := 3, bytes := 12, zero := [D.int Go.IntKind.u32 0, D.int Go.IntKind.i32 0, D.int Go.IntKind.u32 0], places := [(0, 0), (0, 1), (1, 2)] } := by kernel_rfl
theorem ty_103 : tyOf Tryz.prog 103 = some { k := TK.map 88 3, size := 1, bytes := 8, zero := [D.raw (Value.map none)], places := [] } := by kernel_rfl
theorem ty_104 : tyOf Tryz.prog 104 = some { k := TK.struct [(102, 0), (29, 3), (103, 4)], size := 5, bytes := 48, zero := [D.int Go.IntKind.u32 0, D.int Go.IntKind.i32 0, D.int Go.IntKind.u32 0, D.sl [] true, D.raw (Value.map none)], places := [(0, 3), (3, 1), (4, 1)] } := by kernel_rfl
theorem ty_105 : tyOf Tryz.prog 105 = some { k := TK.struct [(102, 0), (29, 3), (103, 4)], size := 5, bytes := 48, zero := [D.int Go.IntKind.u32 0, D.int Go.IntKind.i32 0, D.int Go.IntKind.u32 0, D.sl [] true, D.raw (Value.map none)], places := [(0, 3), (3, 1), (4, 1)] } := by kernel_rfl
theorem ty_106 : tyOf Tryz.prog 106 = some { k := TK.func, size := 1, bytes := 8, zero := [D.raw Value.nilFunc], places := [] } := by kernel_rfl
theorem ty_107 : tyOf Tryz.prog 107 = some { k := TK.func, size := 1, bytes := 8, zero := [D.raw Value.nilFunc], places := [] } := by kernel_rfl
theorem ty_108 : tyOf Tryz.prog 108 = some { k := TK.map 9 91, size := 1, bytes := 8, zero := [D.raw (Value.map none)], places := [] } := by kernel_rfl
theorem ty_109 : tyOf Tryz.prog 109 = some { k := TK.func, size := 1, bytes := 8, zero := [D.raw Value.nilFunc], places := [] } := by kernel_rfl
theorem ty_110 : tyOf Tryz.prog 110 = some { k := TK.func, size := 1, bytes := 8, zero := [D.raw Value.nilFunc], places := [] } := by kernel_rfl
theorem ty_111 : tyOf Tryz.prog 111 = some { k := TK.func, size := 1, bytes := 8, zero := [D.raw Value.nilFunc], places := [] } := by kernel_rfl
theorem ty_112 : tyOf Tryz.prog 112 = some { k := TK.func, size := 1, bytes := 8, zero := [D.raw Value.nilFunc], places := [] } := by kernel_rfl
theorem ty_113 : tyOf Tryz.prog 113 = some { k := TK.ptr 117, size := 1, bytes := 8, zero := [D.raw (Value.pointer none)], places := [] } := by kernel_rfl
theorem ty_114 : tyOf Tryz.prog 114 = some { k := TK.map 3 127, size := 1, bytes := 8, zero := [D.raw (Value.map none)], places := [] } := by kernel_rfl
theorem ty_115 : tyOf Tryz.prog 115 = some { k := TK.func, size := 1, bytes := 8, zero := [D.raw Value.nilFunc], places := [] } := by kernel_rfl
theorem ty_116 : tyOf Tryz.prog 116 = some { k := TK.struct [(114, 0), (3, 1)], size := 2, bytes := 16, zero := [D.raw (Value.map none), D.int Go.IntKind.i64 0], places := [(0, 1), (1, 1)] } := by kernel_rfl
theorem ty_117 : tyOf Tryz.prog 117 = some { k := TK.struct [(114, 0), (3, 1)], size := 2, bytes := 16, zero := [D.raw (Value.map none), D.int Go.IntKind.i64 0], places := [(0, 1), (1, 1)] } := by kernel_rfl
theorem ty_118 : tyOf Tryz.prog 118 = some { k := TK.func, size := 1, bytes := 8, zero := [D.raw Value.nilFunc], places := [] } := by kernel_rfl
theorem ty_119 : tyOf Tryz.prog 119 = some { k := TK.func, size := 1, bytes := 8, zero := [D.raw Value.nilFunc], places := [] } := by kernel_rfl
theorem ty_120 : tyOf Tryz.prog 120 = some { k := TK.func, size := 1, bytes := 8, zero := [D.raw Value.nilFunc], places := [] } := by kernel_rfl
theorem ty_121 : tyOf Tryz.prog 121 = some { k := TK.func, size := 1, bytes := 8, zero := [D.raw Value.nilFunc], places := [] } := by kernel_rfl
theorem ty_122 : tyOf Tryz.prog 122 = some { k := TK.func, size := 1, bytes := 8, zero := [D.raw Value.nilFunc], places := [] } := by kernel_rfl
theorem ty_123 : tyOf Tryz.prog 123 = some { k := TK.func, size := 1, bytes := 8, zero := [D.raw Value.nilFunc], places := [] } := by kernel_rfl
theorem ty_124 : tyOf Tryz.prog 124 = some { k := TK.func, size := 1, bytes := 8, zero := [D.raw Value.nilFunc], places := [] } := by kernel_rfl
theorem ty_125 : tyOf Tryz.prog 125 = some { k := TK.func, size := 1, bytes := 8, zero := [D.raw Value.nilFunc], places := [] } := by kernel_rfl
theorem ty_126 : tyOf Tryz.prog 126 = some { k := TK.struct [(3, 0), (9, 1), (9, 2), (9, 3)], size := 4, bytes := 56, zero := [D.int Go.IntKind.i64 0, D.str [], D.str [], D.str []], places := [(0, 1), (1, 1), (2, 1), (3, 1)] } := by kernel_rfl
theorem ty_127 : tyOf Tryz.prog 127 = some { k := TK.struct [(3, 0), (9, 1), (9, 2), (9, 3)], size := 4, bytes := 56, zero := [D.int Go.IntKind.i64 0, D.str [], D.str [], D.str []], places := [(0, 1), (1, 1), (2, 1), (3, 1)] } := by kernel_rfl
theorem ty_129 : tyOf Tryz.prog 129 = some { k := TK.iface, size := 1, bytes := 16, zero := [D.raw Value.nilIface], places := [] } := by kernel_rfl
theorem ty_130 : tyOf Tryz.prog 130 = some { k := TK.iface, size := 1, bytes := 16, zero := [D.raw Value.nilIface], places := [] } := by kernel_rfl
theorem ty_132 : tyOf Tryz.prog 132 = some { k := TK.func, size := 1, bytes := 8, zero := [D.raw Value.nilFunc], places := [] } := by kernel_rfl
theorem ty_133 : tyOf Tryz.prog 133 = some { k := TK.func, size := 1, bytes := 8, zero := [D.raw Value.nilFunc], places := [] } := by kernel_rfl
theorem ty_134 : tyOf Tryz.prog 134 = some { k := TK.func, size := 1, bytes := 8, zero := [D.raw Value.nilFunc], places := [] } := by kernel_rfl
theorem ty_135 : tyOf Tryz.prog 135 = some { k := TK.func, size := 1, bytes := 8, zero := [D.raw Value.nilFunc], places := [] } := by kernel_rfl
theorem ty_136 : tyOf Tryz.prog 136 = some { k := TK.func, size := 1, bytes := 8, zero := [D.raw Value.nilFunc], places := [] } := by kernel_rfl
theorem ty_137 : tyOf Tryz.prog 137 = some { k := TK.ptr 102, size := 1, bytes := 8, zero := [D.raw (Value.pointer none)], places := [] } := by kernel_rfl
theorem ty_138 : tyOf Tryz.prog 138 = some { k := TK.func, size := 1, bytes := 8, zero := [D.raw Value.nilFunc], places := [] } := by kernel_rfl
theorem ty_139 : tyOf Tryz.prog 139 = some { k := TK.int Go.IntKind.i64, size := 1, bytes := 8, zero := [D.int Go.IntKind.i64 0], places := [] } := by kernel_rfl
theorem ty_141 : tyOf Tryz.prog 141 = some { k := TK.func, size := 1, bytes := 8, zero := [D.raw Value.nilFunc], places := [] } := by kernel_rfl
theorem ty_142 : tyOf Tryz.prog 142 = some { k := TK.ptr 156, size := 1, bytes := 8, zero := [D.raw (Value.pointer none)], places := [] } := by kernel_rfl
theorem ty_143 : tyOf Tryz.prog 143 = some { k := TK.func, size := 1, bytes := 8, zero := [D.raw Value.nilFunc], places := [] } := by kernel_rfl
theorem ty_144 : tyOf Tryz.prog 144 = some { k := TK.func, size := 1, bytes := 8, zero := [D.raw Value.nilFunc], places := [] } := by kernel_rfl
theorem ty_145 : tyOf Tryz.prog 145 = some { k := TK.func, size := 1, bytes := 8, zero := [D.raw Value.nilFunc], places := [] } := by kernel_rfl
theorem ty_146 : tyOf Tryz.prog 146 = some { k := TK.ptr 96, size := 1, bytes := 8, zero := [D.raw (Value.pointer none)], places := [] } := by kernel_rfl
theorem ty_147 : tyOf Tryz.prog 147 = some { k := TK.func, size := 1, bytes := 8, zero := [D.raw Value.nilFunc], places := [] } := by kernel_rfl
theorem ty_148 : tyOf Tryz.prog 148 = some { k := TK.ptr 94, size := 1, bytes := 8, zero := [D.raw (Value.pointer none)], places := [] } := by kernel_rfl
theorem ty_149 : tyOf Tryz.prog 149 = some { k := TK.func, size := 1, bytes := 8, zero := [D.raw Value.nilFunc], places := [] } := by kernel_rfl
theorem ty_150 : tyOf Tryz.prog 150 = some { k := TK.int Go.IntKind.u64, size := 1, bytes := 8, zero := [D.int Go.IntKind.u64 0], places := [] } := by kernel_rfl
theorem ty_152 : tyOf Tryz.prog 152 = some { k := TK.func, size := 1, bytes := 8, zero := [D.raw Value.nilFunc], places := [] } := by kernel_rfl
theorem ty_153 : tyOf Tryz.prog 153 = some { k := TK.int Go.IntKind.u64, size := 1, bytes := 8, zero := [D.int Go.IntKind.u64 0], places := [] } := by kernel_rfl
theorem ty_154 : tyOf Tryz.prog 154 = some { k := TK.func, size := 1, bytes := 8, zero := [D.raw Value.nilFunc], places := [] } := by kernel_rfl
theorem ty_155 : tyOf Tryz.prog 155 = some { k := TK.struct [(9, 0), (9, 1), (130, 2)], size := 3, bytes := 48, zero := [D.str [], D.str [], D.raw Value.nilIface], places := [(0, 1), (1, 1), (2, 1)] } := by kernel_rfl
theorem ty_156 : tyOf Tryz.prog 156 = some { k := TK.struct [(9, 0), (9, 1), (130, 2)], size := 3, bytes := 48, zero := [D.str [], D.str [], D.raw Value.nilIface], places := [(0, 1), (1, 1), (2, 1)] } := by kernel_rfl
theorem ty_157 : tyOf Tryz.prog 157 = some { k := TK.func, size := 1, bytes := 8, zero := [D.raw Value.nilFunc], places := [] } := by kernel_rfl
theorem ty_158 : tyOf Tryz.prog 158 = some { k := TK.array 24 5, size := 24, bytes := 24, zero := [D.int Go.IntKind.u8 0, D.int Go.IntKind.u8 0, D.int Go.IntKind.u8 0, D.int Go.IntKind.u8 0, D.int Go.IntKind.u8 0, D.int Go.IntKind.u8 0, D.int Go.IntKind.u8 0, D.int Go.IntKind.u8 0, D.int Go.IntKind.u8 0, D.int Go.IntKind.u8 0, D.int Go.IntKind.u8 0, D.int Go.IntKind.u8 0, D.int Go.IntKind.u8 0, D.int Go.IntKind.u8 0, D.int Go.IntKind.u8 0, D.int Go.IntKind.u8 0, D.int Go.IntKind.u8 0, D.int Go.IntKind.u8 0, D.int Go.IntKind.u8 0, D.int Go.IntKind.u8 0, D.int Go.IntKind.u8 0, D.int Go.IntKind.u8 0, D.int Go.IntKind.u8 0, D.int Go.IntKind.u8 0], places := [(0, 1), (1, 1), (2, 1), (3, 1), (4, 1), (5, 1), (6, 1), (7, 1), (8, 1), (9, 1), (10, 1), (11, 1), (12, 1), (13, 1), (14, 1), (15, 1), (16, 1), (17, 1), (18, 1), (19, 1), (20, 1), (21, 1), (22, 1), (23, 1)] } := by kernel_rfl
theorem ty_159 : tyOf Tryz.prog 159 = some { k := TK.func, size := 1, bytes := 8, zero := [D.raw Value.nilFunc], places := [] } := by kernel_rfl
theorem ty_160 : tyOf Tryz.prog 160 = some { k := TK.func, size := 1, bytes := 8, zero := [D.raw Value.nilFunc], places := [] } := by kernel_rfl
theorem ty_162 : tyOf Tryz.prog 162 = some { k := TK.func, size := 1, bytes := 8, zero := [D.raw Value.nilFunc], places := [] } := by kernel_rfl
theorem ty_163 : tyOf Tryz.prog 163 = some { k := TK.ptr 100, size := 1, bytes := 8, zero := [D.raw (Value.pointer none)], places := [] } := by kernel_rfl
theorem ty_164 : tyOf Tryz.prog 164 = some { k := TK.func, size := 1, bytes := 8, zero := [D.raw Value.nilFunc], places := [] } := by kernel_rfl
theorem ty_165 : tyOf Tryz.prog 165 = some { k := TK.func, size := 1, bytes := 8, zero := [D.raw Value.nilFunc], places := [] } := by kernel_rfl
theorem ty_166 : tyOf Tryz.prog 166 = some { k := TK.func, size := 1, bytes := 8, zero := [D.raw Value.nilFunc], places := [] } := by kernel_rfl
theorem ty_167 : tyOf Tryz.prog 167 = some { k := TK.func, size := 1, bytes := 8, zero := [D.raw Value.nilFunc], places := [] } := by kernel_rfl
theorem ty_168 : tyOf Tryz.prog 168 = some { k := TK.ptr 5, size := 1, bytes := 8, zero := [D.raw (Value.pointer none)], places := [] } := by kernel_rfl
theorem ty_169 : tyOf Tryz.prog 169 = some { k := TK.ptr 171, size := 1, bytes := 8, zero := [D.raw (Value.pointer none)], places := [] } := by kernel_rfl
theorem ty_170 : tyOf Tryz.prog 170 = some { k := TK.struct [(9, 0)], size := 1, bytes := 16, zero := [D.str []], places := [(0, 1)] } := by kernel_rfl
theorem ty_171 : tyOf Tryz.prog 171 = some { k := TK.struct [(9, 0)], size := 1, bytes := 16, zero := [D.str []], places := [(0, 1)] } := by kernel_rfl
theorem ty_172 : tyOf Tryz.prog 172 = some { k := TK.func, size := 1, bytes := 8, zero := [D.raw Value.nilFunc], places := [] } := by kernel_rfl
theorem ty_173 : tyOf Tryz.prog 173 = some { k := TK.array 20 150, size := 20, bytes := 160, zero := [D.int Go.IntKind.u64 0, D.int Go.IntKind.u64 0, D.int Go.IntKind.u64 0, D.int Go.IntKind.u64 0, D.int Go.IntKind.u64 0, D.int Go.IntKind.u64 0, D.int Go.IntKind.u64 0, D.int Go.IntKind.u64 0, D.int Go.IntKind.u64 0, D.int Go.IntKind.u64 0, D.int Go.IntKind.u64 0, D.int Go.IntKind.u64 0, D.int Go.IntKind.u64 0, D.int Go.IntKind.u64 0, D.int Go.IntKind.u64 0, D.int Go.IntKind.u64 0, D.int Go.IntKind.u64 0, D.int Go.IntKind.u64 0, D.int Go.IntKind.u64 0, D.int Go.IntKind.u64 0], places := [(0, 1), (1, 1), (2, 1), (3, 1), (4, 1), (5, 1), (6, 1), (7, 1), (8, 1), (9, 1), (10, 1), (11, 1), (12, 1), (13, 1), (14, 1), (15, 1), (16, 1), (17, 1), (18, 1), (19, 1)] } := by kernel_rfl
theorem ty_174 : tyOf Tryz.prog 174 = some { k := TK.array 65 5, size := 65, bytes := 65, zero := [D.int Go.IntKind.u8 0, D.int Go.IntKind.u8 0, D.int Go.IntKind.u8 0, D.int Go.IntKind.u8 0, D.int Go.IntKind.u8 0, D.int Go.IntKind.u8 0, D.int Go.IntKind.u8 0, D.int Go.IntKind.u8 0, D.int Go.IntKind.u8 0, D.int Go.IntKind.u8 0, D.int Go.IntKind.u8 0, D.int Go.IntKind.u8 0, D.int Go.IntKind.u8 0, D.int Go.IntKind.u8 0, D.int Go.IntKind.u8 0, D.int Go.IntKind.u8 0, D.int Go.IntKind.u8 0, D.int Go.IntKind.u8 0, D.int Go.IntKind.u8 0, D.int Go.IntKind.u8 0, D.int Go.IntKind.u8 0, D.int Go.IntKind.u8 0, D.int Go.IntKind.u8 0, D.int Go.IntKind.u8 0, D.int Go.IntKind.u8 0, D.int Go.IntKind.u8 0, D.int Go.IntKind.u8 0, D.int Go.IntKind.u8 0, D.int Go.IntKind.u8 0, D.int Go.IntKind.u8 0, D.int Go.IntKind.u8 0, D.int Go.IntKind.u8 0, D.int Go.IntKind.u8 0, D.int Go.IntKind.u8 0, D.int Go.IntKind.u8 0, D.int Go.IntKind.u8 0, D.int Go.IntKind.u8 0, D.int Go.IntKind.u8 0, D.int Go.IntKind.u8 0, D.int Go.IntKind.u8 0, D.int Go.IntKind.u8 0, D.int Go.IntKind.u8 0, D.int Go.IntKind.u8 0, D.int Go.IntKind.u8 0, D.int Go.IntKind.u8 0, D.int Go.IntKind.u8 0, D.int Go.IntKind.u8 0, D.int Go.IntKind.u8 0, D.int Go.IntKind.u8 0, D.int Go.IntKind.u8 0, D.int Go.IntKind.u8 0, D.int Go.IntKind.u8 0, D.int Go.IntKind.u8 0, D.int Go.IntKind.u8 0, D.int Go.IntKind.u8 0, D.int Go.IntKind.u8 0, D.int Go.IntKind.u8 0, D.int Go.IntKind.u8 0, D.int Go.IntKind.u8 0, D.int Go.IntKind.u8 0, D.int Go.IntKind.u8 0, D.int Go.IntKind.u8 0, D.int Go.IntKind.u8 0, D.int Go.IntKind.u8 0, D.int Go.IntKind.u8 0], places := [(0, 1), (1, 1), (2, 1), (3, 1), (4, 1), (5, 1), (6, 1), (7, 1), (8, 1), (9, 1), (10, 1), (11, 1), (12, 1), (13, 1), (14, 1), (15, 1), (16, 1), (17, 1), (18, 1), (19, 1), (20, 1), (21, 1), (22, 1), (23, 1), (24, 1), (25, 1), (26, 1), (27, 1), (28, 1), (29, 1), (30, 1), (31, 1), (32, 1), (33, 1), (34, 1), (35, 1), (36, 1), (37, 1), (38, 1), (39, 1), (40, 1), (41, 1), (42, 1), (43, 1), (44, 1), (45, 1), (46, 1), (47, 1), (48, 1), (49, 1), (50, 1), (51, 1), (52, 1), (53, 1), (54, 1), (55, 1), (56, 1), (57, 1), (58, 1), (59, 1), (60, 1), (61, 1), (62, 1), (63, 1), (64, 1)] } := by kernel_rfl
theorem ty_175 : tyOf Tryz.prog 175 = some { k := TK.func, size := 1, bytes := 8, zero := [D.raw Value.nilFunc], places := [] } := by kernel_rfl
theorem ty_176 : tyOf Tryz.prog 176 = some { k := TK.ptr 98, size := 1, bytes := 8, zero := [D.raw (Value.pointer none)], places := [] } := by kernel_rfl
theorem ty_177 : tyOf Tryz.prog 177 = some { k := TK.func, size := 1, bytes := 8, zero := [D.raw Value.nilFunc], places := [] } := by kernel_rfl
theorem ty_178 : tyOf Tryz.prog 178 = some { k := TK.ptr 21, size := 1, bytes := 8, zero := [D.raw (Value.pointer none)], places := [] } := by kernel_rfl
theorem ty_179 : tyOf Tryz.prog 179 = some { k := TK.func, size := 1, bytes := 8, zero := [D.raw Value.nilFunc], places := [] } := by kernel_rfl
theorem ty_180 : tyOf Tryz.prog 180 = some { k := TK.other, size := 1, bytes := 8, zero := [D.raw (Value.pointer none)], places := [] } := by kernel_rfl
theorem ty_181 : tyOf Tryz.prog 181 = some { k := TK.func, size := 1, bytes := 8, zero := [D.raw Value.nilFunc], places := [] } := by kernel_rfl
theorem ty_182 : tyOf Tryz.prog 182 = some { k := TK.func, size := 1, bytes := 8, zero := [D.raw Value.nilFunc], places := [] } := by kernel_rfl
theorem ty_184 : tyOf Tryz.prog 184 = some { k := TK.func, size := 1, bytes := 8, zero := [D.raw Value.nilFunc], places := [] } := by kernel_rfl
theorem ty_185 : tyOf Tryz.prog 185 = some { k := TK.func, size := 1, bytes := 8, zero := [D.raw Value.nilFunc], places := [] } := by kernel_rfl
theorem ty_186 : tyOf Tryz.prog 186 = some { k := TK.func, size := 1, bytes := 8, zero := [D.raw Value.nilFunc], places := [] } := by kernel_rfl
theorem ty_187 : tyOf Tryz.prog 187 = some { k := TK.func, size := 1, bytes := 8, zero := [D.raw Value.nilFunc], places := [] } := by kernel_rfl
theorem ty_188 : tyOf Tryz.prog 188 = some { k := TK.func, size := 1, bytes := 8, zero := [D.raw Value.nilFunc], places := [] } := by kernel_rfl
theorem ty_189 : tyOf Tryz.prog 189 = some { k := TK.array 32 5, size := 32, bytes := 32, zero := [D.int Go.IntKind.u8 0, D.int Go.IntKind.u8 0, D.int Go.IntKind.u8 0, D.int Go.IntKind.u8 0, D.int Go.IntKind.u8 0, D.int Go.IntKind.u8 0, D.int Go.IntKind.u8 0, D.int Go.IntKind.u8 0, D.int Go.IntKind.u8 0, D.int Go.IntKind.u8 0, D.int Go.IntKind.u8 0, D.int Go.IntKind.u8 0, D.int Go.IntKind.u8 0, D.int Go.IntKind.u8 0, D.int Go.IntKind.u8 0, D.int Go.IntKind.u8 0, D.int Go.IntKind.u8 0, D.int Go.IntKind.u8 0, D.int Go.IntKind.u8 0, D.int Go.IntKind.u8 0, D.int Go.IntKind.u8 0, D.int Go.IntKind.u8 0, D.int Go.IntKind.u8 0, D.int Go.IntKind.u8 0, D.int Go.IntKind.u8 0, D.int Go.IntKind.u8 0, D.int Go.IntKind.u8 0, D.int Go.IntKind.u8 0, D.int Go.IntKind.u8 0, D.int Go.IntKind.u8 0, D.int Go.IntKind.u8 0, D.int Go.IntKind.u8 0], places := [(0, 1), (1, 1), (2, 1), (3, 1), (4, 1), (5, 1), (6, 1), (7, 1), (8, 1), (9, 1), (10, 1), (11, 1), (12, 1), (13, 1), (14, 1), (15, 1), (16, 1), (17, 1), (18, 1), (19, 1), (20, 1), (21, 1), (22, 1), (23, 1), (24, 1), (25, 1), (26, 1), (27, 1), (28, 1), (29, 1), (30, 1), (31, 1)] } := by kernel_rfl
theorem ty_190 : tyOf Tryz.prog 190 = some { k := TK.array 64 5, size := 64, bytes := 64, zero := [D.int Go.IntKind.u8 0, D.int Go.IntKind.u8 0, D.int Go.IntKind.u8 0, D.int Go.IntKind.u8 0, D.int Go.IntKind.u8 0, D.int Go.IntKind.u8 0, D.int Go.IntKind.u8 0, D.int Go.IntKind.u8 0, D.int Go.IntKind.u8 0, D.int Go.IntKind.u8 0, D.int Go.IntKind.u8 0, D.int Go.IntKind.u8 0, D.int Go.IntKind.u8 0, D.int Go.IntKind.u8 0, D.int Go.IntKind.u8 0, D.int Go.IntKind.u8 0, D.int Go.IntKind.u8 0, D.int Go.IntKind.u8 0, D.int Go.IntKind.u8 0, D.int Go.IntKind.u8 0, D.int Go.IntKind.u8 0, D.int Go.IntKind.u8 0, D.int Go.IntKind.u8 0, D.int Go.IntKind.u8 0, D.int Go.IntKind.u8 0, D.int Go.IntKind.u8 0, D.int Go.IntKind.u8 0, D.int Go.IntKind.u8 0, D.int Go.IntKind.u8 0, D.int Go.IntKind.u8 0, D.int Go.IntKind.u8 0, D.int Go.IntKind.u8 0, D.int Go.IntKind.u8 0, D.int Go.IntKind.u8 0, D.int Go.IntKind.u8 0, D.int Go.IntKind.u8 0, D.int Go.IntKind.u8 0, D.int Go.IntKind.u8 0, D.int Go.IntKind.u8 0, D.int Go.IntKind.u8 0, D.int Go.IntKind.u8 0, D.int Go.IntKind.u8 0, D.int Go.IntKind.u8 0, D.int Go.IntKind.u8 0, D.int Go.IntKind.u8 0, D.int Go.IntKind.u8 0, D.int Go.IntKind.u8 0, D.int Go.IntKind.u8 0, D.int Go.IntKind.u8 0, D.int Go.IntKind.u8 0, D.int Go.IntKind.u8 0, D.int Go.IntKind.u8 0, D.int Go.IntKind.u8 0, D.int Go.IntKind.u8 0, D.int Go.IntKind.u8 0, D.int Go.IntKind.u8 0, D.int Go.IntKind.u8 0, D.int Go.IntKind.u8 0, D.int Go.IntKind.u8 0, D.int Go.IntKind.u8 0, D.int Go.IntKind.u8 0, D.int Go.IntKind.u8 0, D.int Go.IntKind.u8 0, D.int Go.IntKind.u8 0], places := [(0, 1), (1, 1), (2, 1), (3, 1), (4, 1), (5, 1), (6, 1), (7, 1), (8, 1), (9, 1), (10, 1), (11, 1), (12, 1), (13, 1), (14, 1), (15, 1), (16, 1), (17, 1), (18, 1), (19, 1), (20, 1), (21, 1), (22, 1), (23, 1), (24, 1), (25, 1), (26, 1), (27, 1), (28, 1), (29, 1), (30, 1), (31, 1), (32, 1), (33, 1), (34, 1), (35, 1), (36, 1), (37, 1), (38, 1), (39, 1), (40, 1), (41, 1), (42, 1), (43, 1), (44, 1), (45, 1), (46, 1), (47, 1), (48, 1), (49, 1), (50, 1), (51, 1), (52, 1), (53, 1), (54, 1), (55, 1), (56, 1), (57, 1), (58, 1), (59, 1), (60, 1), (61, 1), (62, 1), (63, 1)] } := by kernel_rfl
theorem ty_191 : tyOf Tryz.prog 191 = some { k := TK.func, size := 1, bytes := 8, zero := [D.raw Value.nilFunc], places := [] } := by kernel_rfl
theorem ty_192 : tyOf Tryz.prog 192 = some { k := TK.struct [(17, 0), (17, 1), (17, 2), (9, 3)], size := 4, bytes := 40, zero := [D.raw (Value.pointer none), D.raw (Value.pointer none), D.raw (Value.pointer none), D.str []], places := [(0, 1), (1, 1), (2, 1), (3, 1)] } := by kernel_rfl
theorem ty_193 : tyOf Tryz.prog 193 = some { k := TK.struct [(17, 0), (17, 1), (17, 2), (9, 3)], size := 4, bytes := 40, zero := [D.raw (Value.pointer none), D.raw (Value.pointer none), D.raw (Value.pointer none), D.str []], places := [(0, 1), (1, 1), (2, 1), (3, 1)] } := by kernel_rfl
theorem ty_194 : tyOf Tryz.prog 194 = some { k := TK.array 0 16, size := 0, bytes := 0, zero := [], places := [] } := by kernel_rfl
theorem ty_195 : tyOf Tryz.prog 195 = some { k := TK.struct [(194, 0)], size := 0, bytes := 0, zero := [], places := [(0, 0)] } := by kernel_rfl
theorem ty_196 : tyOf Tryz.prog 196 = some { k := TK.struct [(194, 0)], size := 0, bytes := 0, zero := [], places := [(0, 0)] } := by kernel_rfl
theorem ty_197 : tyOf Tryz.prog 197 = some { k := TK.int Go.IntKind.u8, size := 1, bytes := 1, zero := [D.int Go.IntKind.u8 0], places := [] } := by kernel_rfl
theorem ty_198 : tyOf Tryz.prog 198 = some { k := TK.int Go.IntKind.u8, size := 1, bytes := 1, zero := [D.int Go.IntKind.u8 0], places := [] } := by kernel_rfl
theorem ty_199 : tyOf Tryz.prog 199 = some { k := TK.func, size := 1, bytes := 8, zero := [D.raw Value.nilFunc], places := [] } := by kernel_rfl
theorem ty_200 : tyOf Tryz.prog 200 = some { k := TK.int Go.IntKind.i32, size := 1, bytes := 4, zero := [D.int Go.IntKind.i32 0], places := [] } := by kernel_rfl
theorem ty_201 : tyOf Tryz.prog 201 = some { k := TK.int Go.IntKind.i32, size := 1, bytes := 4, zero := [D.int Go.IntKind.i32 0], places := [] } := by kernel_rfl
theorem ty_202 : tyOf Tryz.prog 202 = some { k := TK.struct [(12, 0), (12, 1), (94, 2), (197, 3), (5, 4), (5, 5), (198, 6), (199, 7), (168, 8), (200, 9), (201, 10)], size := 11, bytes := 48, zero := [D.int Go.IntKind.u64 0, D.int Go.IntKind.u64 0, D.int Go.IntKind.u32 0, D.int Go.IntKind.u8 0, D.int Go.IntKind.u8 0, D.int Go.IntKind.u8 0, D.int Go.IntKind.u8 0, D.raw Value.nilFunc, D.raw (Value.pointer none), D.int Go.IntKind.i32 0, D.int Go.IntKind.i32 0], places := [(0, 1), (1, 1), (2, 1), (3, 1), (4, 1), (5, 1), (6, 1), (7, 1), (8, 1), (9, 1), (10, 1)] } := by kernel_rfl
theorem ty_203 : tyOf Tryz.prog 203 = some { k := TK.struct [(12, 0), (12, 1), (94, 2), (197, 3), (5, 4), (5, 5), (198, 6), (199, 7), (168, 8), (200, 9), (201, 10)], size := 11, bytes := 48, zero := [D.int Go.IntKind.u64 0, D.int Go.IntKind.u64 0, D.int Go.IntKind.u32 0, D.int Go.IntKind.u8 0, D.int Go.IntKind.u8 0, D.int Go.IntKind.u8 0, D.int Go.IntKind.u8 0, D.raw Value.nilFunc, D.raw (Value.pointer none), D.int Go.IntKind.i32 0, D.int Go.IntKind.i32 0], places := [(0, 1), (1, 1), (2, 1), (3, 1), (4, 1), (5, 1), (6, 1), (7, 1), (8, 1), (9, 1), (10, 1)] } := by kernel_rfl
theorem ek_2 : eqKinds Tryz.prog 2 = some (false, [EK.int]) := by kernel_rfl
theorem ek_3 : eqKinds Tryz.prog 3 = some (false, [EK.int]) := by kernel_rfl
theorem ek_4 : eqKinds Tryz.prog 4 = some (false, [EK.bool]) := by kernel_rfl
theorem ek_5 : eqKinds Tryz.prog 5 = some (false, [EK.int]) := by kernel_rfl
theorem ek_6 : eqKinds Tryz.prog 6 = some (false, [EK.int]) := by kernel_rfl
theorem ek_7 : eqKinds Tryz.prog 7 = some (true, [EK.int, EK.int, EK.bool, EK.int]) := by kernel_rfl
theorem ek_8 : eqKinds Tryz.prog 8 = some (true, [EK.int, EK.int, EK.bool, EK.int]) := by kernel_rfl
theorem ek_9 : eqKinds Tryz.prog 9 = some (false, [EK.str]) := by kernel_rfl
theorem ek_10 : eqKinds Tryz.prog 10 = some (false, [EK.str]) := by kernel_rfl
theorem ek_11 : eqKinds Tryz.prog 11 = some (false, [EK.str]) := by kernel_rfl
theorem ek_12 : eqKinds Tryz.prog 12 = some (false, [EK.int]) := by kernel_rfl
theorem ek_21 : eqKinds Tryz.prog 21 = some (false, [EK.int]) := by kernel_rfl
theorem ek_36 : eqKinds Tryz.prog 36 = some (false, [EK.int]) := by kernel_rfl
theorem ek_49 : eqKinds Tryz.prog 49 = some (false, [EK.int]) := by kernel_rfl
theorem ek_55 : eqKinds Tryz.prog 55 = some (true, [EK.int, EK.int]) := by kernel_rfl
theorem ek_56 : eqKinds Tryz.prog 56 = some (true, [EK.int, EK.int]) := by kernel_rfl
theorem ek_57 : eqKinds Tryz.prog 57 = some (true, [EK.int, EK.int, EK.str]) := by kernel_rfl
theorem ek_58 : eqKinds Tryz.prog 58 = some (true, [EK.int, EK.int, EK.str]) := by kernel_rfl
theorem ek_88 : eqKinds Tryz.prog 88 = some (true, [EK.int, EK.int]) := by kernel_rfl
theorem ek_91 : eqKinds Tryz.prog 91 = some (true, []) := by kernel_rfl
theorem ek_92 : eqKinds Tryz.prog 92 = some (true, []) := by kernel_rfl
theorem ek_93 : eqKinds Tryz.prog 93 = some (true, []) := by kernel_rfl
theorem ek_94 : eqKinds Tryz.prog 94 = some (false, [EK.int]) := by kernel_rfl
theorem ek_97 : eqKinds Tryz.prog 97 = some (true, [EK.int, EK.int]) := by kernel_rfl
theorem ek_98 : eqKinds Tryz.prog 98 = some (true, [EK.int, EK.int]) := by kernel_rfl
theorem ek_126 : eqKinds Tryz.prog 126 = some (true, [EK.int, EK.str, EK.str, EK.str]) := by kernel_rfl
theorem ek_127 : eqKinds Tryz.prog 127 = some (true, [EK.int, EK.str, EK.str, EK.str]) := by kernel_rfl
theorem ek_139 : eqKinds Tryz.prog 139 = some (false, [EK.int]) := by kernel_rfl
theorem ek_150 : eqKinds Tryz.prog 150 = some (false, [EK.int]) := by kernel_rfl
theorem ek_153 : eqKinds Tryz.prog 153 = some (false, [EK.int]) := by kernel_rfl
theorem ek_158 : eqKinds Tryz.prog 158 = some (true, [EK.int, EK.int, EK.int, EK.int, EK.int, EK.int, EK.int, EK.int, EK.int, EK.int, EK.int, EK.int, EK.int, EK.int, EK.int, EK.int, EK.int, EK.int, EK.int, EK.int, EK.int, EK.int, EK.int, EK.int]) := by kernel_rfl
theorem ek_170 : eqKinds Tryz.prog 170 = some (true, [EK.str]) := by kernel_rfl
theorem ek_171 : eqKinds Tryz.prog 171 = some (true, [EK.str]) := by kernel_rfl
theorem ek_173 : eqKinds Tryz.prog 173 = some (true, [EK.int, EK.int, EK.int, EK.int, EK.int, EK.int, EK.int, EK.int, EK.int, EK.int, EK.int, EK.int, EK.int, EK.int, EK.int, EK.int, EK.int, EK.int, EK.int, EK.int]) := by kernel_rfl
theorem ek_174 : eqKinds Tryz.prog 174 = some (true, [EK.int, EK.int, EK.int, EK.int, EK.int, EK.int, EK.int, EK.int, EK.int, EK.int, EK.int, EK.int, EK.int, EK.int, EK.int, EK.int, EK.int, EK.int, EK.int, EK.int, EK.int, EK.int, EK.int, EK.int, EK.int, EK.int, EK.int, EK.int, EK.int, EK.int, EK.int, EK.int, EK.int, EK.int, EK.int, EK.int, EK.int, EK.int, EK.int, EK.int, EK.int, EK.int, EK.int, EK.int, EK.int, EK.int, EK.int, EK.int, EK.int, EK.int, EK.int, EK.int, EK.int, EK.int, EK.int, EK.int, EK.int, EK.int, EK.int, EK.int, EK.int, EK.int, EK.int, EK.int, EK.int]) := by kernel_rfl
theorem ek_189 : eqKinds Tryz.prog 189 = some (true, [EK.int, EK.int, EK.int, EK.int, EK.int, EK.int, EK.int, EK.int, EK.int, EK.int, EK.int, EK.int, EK.int, EK.int, EK.int, EK.int, EK.int, EK.int, EK.int, EK.int, EK.int, EK.int, EK.int, EK.int, EK.int, EK.int, EK.int, EK.int, EK.int, EK.int, EK.int, EK.int]) := by kernel_rfl
theorem ek_190 : eqKinds Tryz.prog 190 = some (true, [EK.int, EK.int, EK.int, EK.int, EK.int, EK.int, EK.int, EK.int, EK.int, EK.int, EK.int, EK.int, EK.int, EK.int, EK.int, EK.int, EK.int, EK.int, EK.int, EK.int, EK.int, EK.int, EK.int, EK.int, EK.int, EK.int, EK.int, EK.int, EK.int, EK.int, EK.int, EK.int, EK.int, EK.int, EK.int, EK.int, EK.int, EK.int, EK.int, EK.int, EK.int, EK.int, EK.int, EK.int, EK.int, EK.int, EK.int, EK.int, EK.int, EK.int, EK.int, EK.int, EK.int, EK.int, EK.int, EK.int, EK.int, EK.int, EK.int, EK.int, EK.int, EK.int, EK.int, EK.int]) := by kernel_rfl
theorem ek_194 : eqKinds Tryz.prog 194 = some (true, []) := by kernel_rfl
theorem ek_197 : eqKinds Tryz.prog 197 = some (false, [EK.int]) := by kernel_rfl
theorem ek_198 : eqKinds Tryz.prog 198 = some (false, [EK.int]) := by kernel_rfl
theorem ek_200 : eqKinds Tryz.prog 200 = some (false, [EK.int]) := by kernel_rfl
theorem ek_201 : eqKinds Tryz.prog 201 = some (false, [EK.int]) := by kernel_rfl
theorem if_20 : isIfaceTy Tryz.prog 20 = true := by kernel_rfl
theorem if_129 : isIfaceTy Tryz.prog 129 = true := by kernel_rfl
theorem if_130 : isIfaceTy Tryz.prog 130 = true := by kernel_rfl
end Go.Proofs.YtgpbkphiipjjoaaGreatDoor.Pv
end

/- What the program's values are as plain Lean: formulas, graphs, circuits. -/
section
namespace Go.Proofs.YtgpbkphiipjjoaaGreatDoor.Pv
open Go

theorem nc0 : ((0 : Nat) : Int) = 0 := rfl
theorem nc1 : ((1 : Nat) : Int) = 1 := rfl
theorem nc2 : ((2 : Nat) : Int) = 2 := rfl
theorem fg_int (k : IntKind) (n : Int) : (D.int k n).fg = .int k n := rfl
theorem fg_bool (b : Bool) : (D.bool b).fg = .bool b := rfl
theorem fg_str (l : List UInt8) : (D.str l).fg = .str l := rfl
theorem fg_raw (v : Value) : (D.raw v).fg = .raw v := rfl
theorem fg_sl (es : List D) (c : Bool) : (D.sl es c).fg = .sl (es.map D.fg) false := by rw [D.fg, fgL_map]
theorem fg_ip (e : D) : (D.ip e).fg = .ip e.fg := rfl
theorem fg_vm (x y : List D) : (D.vm x y).fg = .vm (x.map D.fg) (y.map D.fg) := by rw [D.fg, fgL_map, fgL_map]
theorem fg_fn (f : Fn) (x y : List D) : (D.fn f x y).fg = .fn f (x.map D.fg) (y.map D.fg) := by rw [D.fg, fgL_map, fgL_map]
theorem fg_ifc (t : TypeId) (x : D) : (D.ifc t x).fg = .ifc t x.fg := rfl
theorem fg_agg (cs : List D) : (D.agg cs).fg = .agg (cs.map D.fg) := by rw [D.fg, fgL_map]
theorem fg_tup (cs : List D) : (D.tup cs).fg = .tup (cs.map D.fg) := by rw [D.fg, fgL_map]
theorem fgd_d (x : D) : (PV.d x).fgd = .d x.fg := rfl
theorem fgd_ptr (i o : Nat) : (PV.ptr i o).fgd = .ptr i o := rfl
theorem fgd_mp (i : Nat) : (PV.mp i).fgd = .mp i := rfl
theorem fgd_fn (f : Fn) (x y : List PV) : (PV.fn f x y).fgd = .fn f x y := rfl

/-- a formula: its kind, its name, its literal, its parts -/
inductive Fm where
  | mk (kind : Int) (name : List UInt8) (lit : Int) (kids : List Fm)

def Fm.kind : Fm → Int | .mk k _ _ _ => k
def Fm.name : Fm → List UInt8 | .mk _ n _ _ => n
def Fm.lit : Fm → Int | .mk _ _ l _ => l
def Fm.kids : Fm → List Fm | .mk _ _ _ ks => ks

theorem Fm.kind_mk (k : Int) (n : List UInt8) (l : Int) (ks : List Fm) : (Fm.mk k n l ks).kind = k := rfl
theorem Fm.name_mk (k : Int) (n : List UInt8) (l : Int) (ks : List Fm) : (Fm.mk k n l ks).name = n := rfl
theorem Fm.lit_mk (k : Int) (n : List UInt8) (l : Int) (ks : List Fm) : (Fm.mk k n l ks).lit = l := rfl
theorem Fm.kids_mk (k : Int) (n : List UInt8) (l : Int) (ks : List Fm) : (Fm.mk k n l ks).kids = ks := rfl
mutual
def dF : Fm → D
  | .mk k n l ks => .agg [.int .i64 k, .str n, .int .i64 l, .sl (dFL ks) false]
def dFL : List Fm → List D
  | [] => []
  | x :: r => dF x :: dFL r
end
theorem dFL_map : ∀ l : List Fm, dFL l = l.map dF
  | [] => rfl
  | x :: r => by rw [dFL, List.map_cons, dFL_map r]
theorem dF_mk (k : Int) (n : List UInt8) (l : Int) (ks : List Fm) : dF (.mk k n l ks) = .agg [.int .i64 k, .str n, .int .i64 l, .sl (ks.map dF) false] := by rw [dF, dFL_map]
theorem dF_eq (f : Fm) : dF f = .agg [.int .i64 f.kind, .str f.name, .int .i64 f.lit, .sl (f.kids.map dF) false] := by cases f; exact dF_mk _ _ _ _
mutual
theorem fg_dF : ∀ f : Fm, (dF f).fg = dF f
  | .mk k n l ks => by rw [dF, D.fg, D.fgL, D.fgL, D.fgL, D.fgL, D.fgL, D.fg, D.fg, D.fg, D.fg, fgL_dFL ks]
theorem fgL_dFL : ∀ l : List Fm, D.fgL (dFL l) = dFL l
  | [] => rfl
  | x :: r => by rw [dFL, D.fgL, fg_dF x, fgL_dFL r]
end
theorem fg_comp_dF : D.fg ∘ dF = dF := funext fg_dF
theorem fg_map_dF (l : List Fm) : (l.map dF).map D.fg = l.map dF := by rw [List.map_map, fg_comp_dF]
theorem dF_ncells (f : Fm) : (dF f).ncells = 4 := by rw [dF_eq]; rfl
theorem dF_allN (l : List Fm) : AllN 4 (l.map dF) := AllN.map dF_ncells l

/-- a formula's cells in sight -/
abbrev dFu (f : Fm) : D := .agg [.int .i64 f.kind, .str f.name, .int .i64 f.lit, .sl (f.kids.map dF) false]
theorem fg_dFu (f : Fm) : (dFu f).fg = dFu f := by have := fg_dF f; rw [dF_eq] at this; exact this
instance : Inhabited Fm := ⟨.mk 0 [] 0 []⟩
theorem getD_map_lt {α : Type} [Inhabited α] {g : α → D} {l : List α} {i : Nat} (h : i < l.length) : (l.map g).getD i default = g (l.getD i default) := by
  simp [List.getD_eq_getElem?_getD, List.getElem?_eq_getElem h]

theorem Fm.ind {P : Fm → Prop} (h : ∀ f : Fm, (∀ x, x ∈ f.kids → P x) → P f) (f : Fm) : P f :=
  Fm.rec (motive_1 := P) (motive_2 := fun l => ∀ x, x ∈ l → P x) (fun k n l ks ih => h _ ih) (fun x hx => by simp at hx) (fun y r hy hr x hx => by
    rcases List.mem_cons.1 hx with rfl | hx
    · exact hy
    · exact hr x hx) f
theorem Fm.ext' {f g : Fm} (h1 : f.kind = g.kind) (h2 : f.name = g.name) (h3 : f.lit = g.lit) (h4 : f.kids = g.kids) : f = g := by
  cases f; cases g; simp only [Fm.kind, Fm.name, Fm.lit, Fm.kids] at h1 h2 h3 h4; rw [h1, h2, h3, h4]
theorem getD_mem' {α : Type} [Inhabited α] {l : List α} {i : Nat} (h : i < l.length) : l.getD i default ∈ l := by
  rw [List.getD_eq_getElem?_getD, List.getElem?_eq_getElem h]; exact List.getElem_mem h
theorem getD_memF {l : List Fm} {i : Nat} (h : i < l.length) : l.getD i default ∈ l := by
  rw [List.getD_eq_getElem?_getD, List.getElem?_eq_getElem h]; exact List.getElem_mem h

theorem dF_inj : ∀ {f g : Fm}, dF f = dF g → f = g := by
  intro f
  refine Fm.rec (motive_1 := fun f => ∀ {g : Fm}, dF f = dF g → f = g) (motive_2 := fun l => ∀ {m : List Fm}, l.map dF = m.map dF → l = m) ?_ ?_ ?_ f
  · intro k n l ks ih g h
    cases g with
    | mk k' n' l' ks' =>
      rw [dF_mk, dF_mk] at h
      injection h with h
      simp only [List.cons.injEq, D.int.injEq, D.str.injEq, D.sl.injEq, and_true, true_and] at h
      obtain ⟨h1, h2, h3, h4⟩ := h
      rw [h1, h2, h3, ih h4]
  · intro m h; cases m with
    | nil => rfl
    | cons _ _ => simp at h
  · intro x r ihx ihr m h
    cases m with
    | nil => simp at h
    | cons y s =>
      simp only [List.map_cons, List.cons.injEq] at h
      rw [ihx h.1, ihr h.2]

/-- a pair of numbers -/
abbrev dPair (p : Int × Int) : D := .agg [.int .i64 p.1, .int .i64 p.2]
theorem fg_dPair (p : Int × Int) : (dPair p).fg = dPair p := rfl
theorem fg_comp_dPair : D.fg ∘ dPair = dPair := funext fg_dPair
theorem dPair_ncells (p : Int × Int) : (dPair p).ncells = 2 := rfl
abbrev dInt (n : Int) : D := .int .i64 n
theorem fg_dInt (n : Int) : (dInt n).fg = dInt n := rfl
theorem fg_comp_dInt : D.fg ∘ dInt = dInt := funext fg_dInt

/-- a graph -/
structure Gr where
  inputs : Int
  ands : List (Int × Int)
abbrev dG (g : Gr) : D := .agg [.int .i64 g.inputs, .sl (g.ands.map dPair) false]
theorem fg_dG (g : Gr) : (dG g).fg = dG g := by simp only [fg_agg, fg_int, fg_sl, List.map_cons, List.map_nil, List.map_map, fg_comp_dPair]

/-- a name: of which signal, at which place -/
structure Nm where
  kind : Int
  at_ : Int
  text : List UInt8
instance : Inhabited Nm := ⟨⟨0, 0, []⟩⟩
abbrev dN (n : Nm) : D := .agg [.int .u8 n.kind, .int .i64 n.at_, .str n.text]
theorem fg_dN (n : Nm) : (dN n).fg = dN n := rfl
theorem fg_comp_dN : D.fg ∘ dN = dN := funext fg_dN

/-- a circuit -/
structure Ci where
  inputs : Int
  latches : List (Int × Int)
  ands : List (Int × Int)
  outputs : List Int
  bads : List Int
  cons : List Int
  fair : List Int
  names : List Nm
abbrev dC (c : Ci) : D := .agg [.int .i64 c.inputs, .sl (c.latches.map dPair) false, .sl (c.ands.map dPair) false, .sl (c.outputs.map dInt) false, .sl (c.bads.map dInt) false, .sl (c.cons.map dInt) false, .sl (c.fair.map dInt) false, .sl (c.names.map dN) false]
theorem fg_dC (c : Ci) : (dC c).fg = dC c := by simp only [fg_agg, fg_int, fg_sl, List.map_cons, List.map_nil, List.map_map, fg_comp_dPair, fg_comp_dInt, fg_comp_dN]
/-- at a leaf: what has been reckoned is what was claimed -/
theorem leaf {x y : D} (h : x.fg = y := by (try simp only [fg_int, fg_bool, fg_str, fg_raw, fg_sl, fg_ip, fg_vm, fg_fn, fg_ifc, fg_agg, fg_tup, List.map_cons, List.map_nil, List.map_map, fg_comp_dF, fg_comp_dPair, fg_comp_dInt, fg_comp_dN, fg_dF, dF_eq, Fm.kind_mk, Fm.name_mk, Fm.lit_mk, Fm.kids_mk, dFu]) <;> rfl) : DW x y := .inr h
end Go.Proofs.YtgpbkphiipjjoaaGreatDoor.Pv
end

/- One step that reckons: the words are named once. -/
section
namespace Go.Proofs.YtgpbkphiipjjoaaGreatDoor.Pv
open Go
set_option maxRecDepth 100000
theorem sm {p q : Prop} (k : q) (e : p = q := by (conv => lhs; simp only [fin_ret, fin_ret0, ↓vk_app, ↓vok_app, ↓vdk_app, ↓pK_app, ↓kC_app, ↓kD_app, ↓kE_app, ↓kR_app, ↓ve_t, ↓ve_f, ve_eq, ↓vg_tt, ↓vg_ff, ↓vg_tf, ↓vg_ft, vg_eq, ↓vh_tt, ↓vh_ff, ↓vh_tf, ↓vh_ft, vh_eq, ↓vc_skip, ↓vc_ret, ↓vc_exit, ↓vc_label, ↓vc_seq, ↓vc_cond, ↓vc_block, ↓vc_region, vc_drawn, vc_loop, vc_rangeFunc, ↓vd_nil, ↓vd_run, ↓vd_guard, ↓d1_qcall, ↓d1_q, ↓d1_r, ↓d1_rcall, ↓d1_ecall, ↓d1_e, po_nil, po_zero, po_1, po_2, po_3, pn_nil, pn_zero, pn_1, pn_2, pn_3, pk_zero, pk_nil, pk_1, pk_2, pk_3, qs_eq, v1_next, nextM, ps_makeMap, ps_mapUpdate, ps_insert, ps_lookup, ps_range, ps_next, ps_entry, peqOp, peq, eqD, fits2, cellFits, aggBeq, cellBeq, nilOf, plookup, pmapUpd, mput, prange, pnextS, pentry, presC, pres1, bodyC, zeroElem, ↓vo_nil, ↓vo_run, ↓vo_guard, dst_some, dst_none, ↓v1_call, ↓v1_defer, dfr_t, dfr_N, dfr_ds, ↓v1_op, ↓v1_len, lenThen_int, pl_move, pl_assign, pl_pick, pl_alloc, pl_box, pl_build, pl_buildSlice, pl_insert, pl_load, pl_store, pl_nilCheck, pl_binOp, pl_unOp, pl_convert, pl_makeInterface, pl_makeFunc, pl_makeMap, pl_makeSlice, pl_slice, pl_fieldAddr, pl_field, pl_indexAddr, pl_index, pl_lookup, pl_mapUpdate, pl_range, pl_nextS, pl_entry, pl_extract, pl_append, pl_min, pl_max, pl_copy, pl_delete, pl_cap, nv_move, nv_assign, nv_pick, nv_alloc, nv_box, nv_build, nv_buildSlice, nv_insert, nv_load, nv_store, nv_nilCheck, nv_binOp, nv_unOp, nv_convert, nv_makeInterface, nv_makeFunc, nv_makeMap, nv_makeSlice, nv_slice, nv_fieldAddr, nv_field, nv_indexAddr, nv_index, nv_lookup, nv_mapUpdate, nv_range, nv_nextS, nv_entry, nv_extract, nv_append, nv_min, nv_max, nv_copy, nv_delete, nv_cap, nv_len, ps_move, ps_assign, ps_pick, ps_alloc, ps_box, ps_load, ps_store, ps_nilCheck, ps_bin, ps_not, ps_convert, ps_fieldAddr, ps_field, ps_indexAddr, ps_index, ps_slice, ps_extract, ps_makeFunc, ps_makeInterface, ps_build, ps_buildSlice, ps_makeSlice, ps_builtin, pb_len, pb_min, pb_max, pb_append, start_t, start_N, start_ds, ↓put_t, put_none, ↓put_N, ↓put_ds, mk_t, mk_N, mk_ds, rs_t, rs_N, rs_ds, ev_tmp, ev_func, ev_global, ev_int, ev_bool, ev_string, ev_slice, ev_map, ev_ptr, ev_agg, argAt, flat_agg, flat_dagg, flat_int, flat_bool, flat_str, flat_sl, flat_ip, flat_vm, flat_dfn, flat_difc, flat_nilFunc, flat_nilMap, flat_nilPtr, flat_nilIface, flat_ptr, flat_row, flat_mp, flat_fn, flat_ifc, allD_nil, allD_d, allD_ptr, allD_row, allD_mp, allD_fn, allD_agg, allD_tup, allD_junk, allD_ifc, rsv_d, rsv_ptr, rsv_mp, rsv_fn, rsv_junk, rsv_row, rsvA_d, rsvA_ptr, rsvA_mp, rsvA_row, rsvA_agg, rsvA_tup, rsvA_fn, rsvA_junk, mkAgg, mkTup, mkFn, fnOf_d, fnOf_p, pload, pstore, plen, pfaddr, pfield, piaddr, pindex, pbin, pmm, pslice, pbound, pextract, pbuild, pfill, pbuildSlice, sliceParts, pappendNew, pappendRow, isE2, isE_nil, isE_cons, pmake, zeroElem, partOf, partD, whole, TK.agg, dcells, retK, thenP, blockP, look, D.ncells, D.cell, D.scalar, PV.ncells, PV.cell, PV.scalar, scalarV, Nat.reduceEqDiff, Nat.reduceLT, Nat.reduceLeDiff, Nat.reduceAdd, Nat.reduceSub, Nat.reduceMul, ↓reduceIte, and_true, true_and, ne_eq, reduceCtorEq, not_false_eq_true, implies_true, Op.call.injEq, Call.mk.injEq, false_and, and_false, Bool.false_eq_true, Bool.true_eq_false, Bool.not_true, Bool.not_false, forall_const, false_implies, true_implies, eq_self_iff_true, List.map_cons, List.map_nil, List.cons_append, List.nil_append, List.append_nil, List.append_assoc, List.length_append, List.length_cons, List.length_nil, List.length_map, List.length_set, List.take_succ_cons, List.take_zero, List.take_nil, List.drop_succ_cons, List.drop_zero, List.drop_nil, List.getElem?_cons_zero, List.getElem?_cons_succ, Option.map_some, Option.map_none, Option.bind_some, List.getElem?_toArray, List.size_toArray, hget_own, hset_own, hget_own0, hset_own0, hget_ownS, hset_ownS, hget_ownS0, hset_ownS0, List.set_cons_zero, List.set_cons_succ, Nat.add_zero, Nat.zero_add, eq_self, Int.reduceEq, Int.reduceNe, Int.reduceLT, Int.reduceLE, Int.reduceNeg, Int.reduceToNat, decide_true, decide_false, not_true_eq_false, Bool.not_eq_true', Option.map_none, dF_eq, Int.toNat_natCast, nc1, nc2, pfind_nil, pfind_cons, keyBeq_int, keyBeq_str, keyBeq_agg, af_eq, akf_nil, akf_cons, kf_d, Option.isSome_some, ty_1, ty_2, ty_3, ty_4, ty_5, ty_6, ty_7, ty_8, ty_9, ty_10, ty_11, ty_12, ty_13, ty_14, ty_15, ty_16, ty_17, ty_18, ty_19, ty_20, ty_21, ty_22, ty_23, ty_24, ty_25, ty_26, ty_27, ty_28, ty_29, ty_30, ty_31, ty_32, ty_33, ty_34, ty_35, ty_36, ty_38, ty_39, ty_40, ty_41, ty_42, ty_43, ty_44, ty_45, ty_46, ty_47, ty_48, ty_49, ty_50, ty_51, ty_53, ty_54, ty_55, ty_56, ty_57, ty_58, ty_59, ty_60, ty_61, ty_62, ty_63, ty_65, ty_66, ty_67, ty_68, ty_69, ty_70, ty_71, ty_72, ty_73, ty_74, ty_75, ty_76, ty_77, ty_78, ty_80, ty_81, ty_82, ty_84, ty_85, ty_86, ty_87, ty_88, ty_89, ty_90, ty_91, ty_92, ty_93, ty_94, ty_95, ty_96, ty_97, ty_98, ty_99, ty_100, ty_101, ty_102, ty_103, ty_104, ty_105, ty_106, ty_107, ty_108, ty_109, ty_110, ty_111, ty_112, ty_113, ty_114, ty_115, ty_116, ty_117, ty_118, ty_119, ty_120, ty_121, ty_122, ty_123, ty_124, ty_125, ty_126, ty_127, ty_129, ty_130, ty_132, ty_133, ty_134, ty_135, ty_136, ty_137, ty_138, ty_139, ty_141, ty_142, ty_143, ty_144, ty_145, ty_146, ty_147, ty_148, ty_149, ty_150, ty_152, ty_153, ty_154, ty_155, ty_156, ty_157, ty_158, ty_159, ty_160, ty_162, ty_163, ty_164, ty_165, ty_166, ty_167, ty_168, ty_169, ty_170, ty_171, ty_172, ty_173, ty_174, ty_175, ty_176, ty_177, ty_178, ty_179, ty_180, ty_181, ty_182, ty_184, ty_185, ty_186, ty_187, ty_188, ty_189, ty_190, ty_191, ty_192, ty_193, ty_194, ty_195, ty_196, ty_197, ty_198, ty_199, ty_200, ty_201, ty_202, ty_203, ek_2, ek_3, ek_4, ek_5, ek_6, ek_7, ek_8, ek_9, ek_10, ek_11, ek_12, ek_21, ek_36, ek_49, ek_55, ek_56, ek_57, ek_58, ek_88, ek_91, ek_92, ek_93, ek_94, ek_97, ek_98, ek_126, ek_127, ek_139, ek_150, ek_153, ek_158, ek_170, ek_171, ek_173, ek_174, ek_189, ek_190, ek_194, ek_197, ek_198, ek_200, ek_201, if_20, if_129, if_130]); first | done | rfl) : p := e ▸ k
end Go.Proofs.YtgpbkphiipjjoaaGreatDoor.Pv
end

/- The small functions. -/
section
namespace Go.Proofs.YtgpbkphiipjjoaaGreatDoor.Pv
open Go
set_option maxRecDepth 100000
set_option maxHeartbeats 4000000
set_option linter.unusedSimpArgs false

/-- how many parts a kind has -/
def kidsF (k : Int) : Int := if k < 1 ∨ 18 < k then -1 else if k ≤ 3 then 0 else if k = 4 ∨ (9 ≤ k ∧ k ≤ 14) then 1 else 2

theorem kids_ret (B : Array Obj) (k : Int) : PRet Tryz.prog B 18 [.d (.int .i64 k)] (.int .i64 (kidsF k)) := by
  refine pret_start Tryz.func18 Tryz.ntmps18 rfl (by decide) rfl (by simp) fun h hb => ?_
  refine vcC_sound _ _ _ _ ?_
  refine sm ?_
  simp only [decide_eq_true_eq, decide_eq_false_iff_not, kidsF]
  repeat' (first | with_reducible refine And.intro ?_ ?_ | with_reducible intro _)
  all_goals (refine .inl ?_; congr 1; (repeat' split) <;> first | rfl | omega)

theorem bkids_ret (B : Array Obj) (k : Int) : PRet Tryz.prog B 54 [.d (.int .i64 k)] (.int .i64 (kidsF k)) := by
  refine pret_start Tryz.func54 Tryz.ntmps54 rfl (by decide) rfl (by simp) fun h hb => ?_
  refine vcC_sound _ _ _ _ ?_
  refine sm ?_
  simp only [decide_eq_true_eq, decide_eq_false_iff_not, kidsF]
  repeat' (first | with_reducible refine And.intro ?_ ?_ | with_reducible intro _)
  all_goals (refine .inl ?_; congr 1; (repeat' split) <;> first | rfl | omega)

theorem of_ret (B : Array Obj) (k : Int) (l : List D) (cl : Bool) : PRet Tryz.prog B 56 [.d (.int .i64 k), .d (.sl l cl)] (.agg [.int .i64 k, .str [], .int .i64 0, .sl (l.map D.fg) false]) := by
  refine pret_start Tryz.func56 Tryz.ntmps56 rfl (by decide) rfl (by simp) fun h hb => ?_
  refine vcC_sound _ _ _ _ ?_
  refine sm ?_
  exact .inr (by simp only [fg_agg, fg_int, fg_str, fg_sl, List.map_cons, List.map_nil])

theorem not_ret (B : Array Obj) (f : Fm) : PRet Tryz.prog B 60 [.d (dFu f)] (dFu (.mk 4 [] 0 [f])) := by
  refine pret_start Tryz.func60 Tryz.ntmps60 rfl (by decide) rfl (by simp) fun h hb => ?_
  refine vcC_sound _ _ _ _ ?_
  refine sm ?_
  refine PRet.use (of_ret B 4 [dFu f] true) ?_
  refine sm ?_
  exact leaf

theorem but_ret (B : Array Obj) (hm : Tryz.prog.follows .mixedOrders = true) (f g : Fm) : PRet Tryz.prog B 62 [.d (dFu f), .d (dFu g)] (dFu (.mk 5 [] 0 [f, .mk 4 [] 0 [g]])) := by
  refine pret_start Tryz.func62 Tryz.ntmps62 rfl (by decide) rfl (by simp) fun h hb => ?_
  refine vcC_sound _ _ _ _ ?_
  refine sm ?_
  refine pwp_drawn [.r 0 0, .r 0 0, .q, .q, .q, .e] hm (by kernel_rfl) ?_
  refine sm ?_
  refine exQ.use (not_ret B g) (sm ?_)
  refine exQ.use (of_ret B 5 [dFu f, dFu (.mk 4 [] 0 [g])] true) (sm ?_)
  exact leaf

theorem rone_ret (B : Array Obj) (k : Int) (f : Fm) : PRet Tryz.prog B 73 [.d (.int .i64 k), .d (dFu f)] (dFu (.mk k [] 0 [f])) := by
  refine pret_start Tryz.func73 Tryz.ntmps73 rfl (by decide) rfl (by simp) fun h hb => ?_
  refine vcC_sound _ _ _ _ ?_
  refine sm ?_
  exact leaf

theorem rtwo_ret (B : Array Obj) (k : Int) (f g : Fm) : PRet Tryz.prog B 74 [.d (.int .i64 k), .d (dFu f), .d (dFu g)] (dFu (.mk k [] 0 [f, g])) := by
  refine pret_start Tryz.func74 Tryz.ntmps74 rfl (by decide) rfl (by simp) fun h hb => ?_
  refine vcC_sound _ _ _ _ ?_
  refine sm ?_
  exact leaf

theorem rnot_ret (B : Array Obj) (f : Fm) : PRet Tryz.prog B 72 [.d (dFu f)] (dFu (.mk 4 [] 0 [f])) := by
  refine pret_start Tryz.func72 Tryz.ntmps72 rfl (by decide) rfl (by simp) fun h hb => ?_
  refine vcC_sound _ _ _ _ ?_
  refine sm ?_
  refine PRet.use (rone_ret B 4 f) (sm ?_)
  exact leaf

/-! graphs -/
def varsG (g : Gr) : Int := IntKind.i64.wrap (IntKind.i64.wrap (g.inputs + 1) + g.ands.length)
theorem vars_ret (B : Array Obj) (g : Gr) : PRet Tryz.prog B 75 [.d (dG g)] (.int .i64 (varsG g)) := by
  refine pret_start Tryz.func75 Tryz.ntmps75 rfl (by decide) rfl (by simp) fun h hb => ?_
  refine vcC_sound _ _ _ _ ?_
  refine sm ?_
  exact fun _ => leaf
theorem rvars_ret (B : Array Obj) (g : Gr) : PRet Tryz.prog B 21 [.d (dG g)] (.int .i64 (varsG g)) := by
  refine pret_start Tryz.func21 Tryz.ntmps21 rfl (by decide) rfl (by simp) fun h hb => ?_
  refine vcC_sound _ _ _ _ ?_
  refine sm ?_
  exact fun _ => leaf

def litG (g : Gr) (n : Int) : Bool := decide (0 ≤ g.inputs) && (decide (g.inputs ≤ 2000) && (decide (0 ≤ n) && decide (IntKind.i64.wrap (n.tdiv 2) < varsG g)))
theorem lit_ret (B : Array Obj) (g : Gr) (n : Int) : PRet Tryz.prog B 38 [.d (dG g), .d (.int .i64 n)] (.bool (litG g n)) := by
  refine pret_start Tryz.func38 Tryz.ntmps38 rfl (by decide) rfl (by simp) fun h hb => ?_
  refine vcC_sound _ _ _ _ ?_
  refine sm ?_
  repeat' (first | with_reducible refine And.intro ?_ ?_ | with_reducible intro _)
  all_goals first
    | (refine PRet.use (vars_ret B g) (sm ?_); refine leaf ?_; simp_all [litG, fg_bool]; done)
    | (refine leaf ?_; simp_all [litG, fg_bool] <;> (intros; omega))
theorem rlit_ret (B : Array Obj) (g : Gr) (n : Int) : PRet Tryz.prog B 48 [.d (dG g), .d (.int .i64 n)] (.bool (litG g n)) := by
  refine pret_start Tryz.func48 Tryz.ntmps48 rfl (by decide) rfl (by simp) fun h hb => ?_
  refine vcC_sound _ _ _ _ ?_
  refine sm ?_
  repeat' (first | with_reducible refine And.intro ?_ ?_ | with_reducible intro _)
  all_goals first
    | (refine PRet.use (rvars_ret B g) (sm ?_); refine leaf ?_; simp_all [litG, fg_bool]; done)
    | (refine leaf ?_; simp_all [litG, fg_bool] <;> (intros; omega))

def ofC (c : Ci) : Gr := ⟨IntKind.i64.wrap (c.inputs + c.latches.length), c.ands⟩
theorem Of_ret (B : Array Obj) (c : Ci) : PRet Tryz.prog B 35 [.d (dC c)] (dG (ofC c)) := by
  refine pret_start Tryz.func35 Tryz.ntmps35 rfl (by decide) rfl (by simp) fun h hb => ?_
  refine vcC_sound _ _ _ _ ?_
  refine sm ?_
  exact fun _ => leaf
theorem rOf_ret (B : Array Obj) (c : Ci) : PRet Tryz.prog B 46 [.d (dC c)] (dG (ofC c)) := by
  refine pret_start Tryz.func46 Tryz.ntmps46 rfl (by decide) rfl (by simp) fun h hb => ?_
  refine vcC_sound _ _ _ _ ?_
  refine sm ?_
  exact fun _ => leaf
end Go.Proofs.YtgpbkphiipjjoaaGreatDoor.Pv
end

/- What a loop's head asks for. -/
section
namespace Go.Proofs.YtgpbkphiipjjoaaGreatDoor.Pv
open Go

theorem pb_d {n : Nat} {x : D} : PV.Below n (.d x) = True := eq_true (.d x)
theorem pb_ptr {n i o : Nat} : PV.Below n (.ptr i o) = (i < n) := propext ⟨fun h => by cases h; assumption, fun h => .ptr i o h⟩
theorem pb_row {n i o : Nat} : PV.Below n (.row i o) = (i < n) := propext ⟨fun h => by cases h; assumption, fun h => .row i o h⟩
theorem pb_mp {n i : Nat} : PV.Below n (.mp i) = (i < n) := propext ⟨fun h => by cases h; assumption, fun h => .mp i h⟩
theorem pb_it {n i : Nat} : PV.Below n (.it i) = (i < n) := propext ⟨fun h => by cases h; assumption, fun h => .it i h⟩
theorem pb_junk {n : Nat} : PV.Below n .junk = True := eq_true .junk
theorem pb_fn {n : Nat} {f : Fn} {l m : List PV} : PV.Below n (.fn f l m) = ((∀ p, p ∈ l → PV.Below n p) ∧ ∀ p, p ∈ m → PV.Below n p) := propext ⟨fun h => by cases h; exact ⟨‹_›, ‹_›⟩, fun h => .fn f l m h.1 h.2⟩
theorem pb_agg {n : Nat} {l : List PV} : PV.Below n (.agg l) = ∀ p, p ∈ l → PV.Below n p := propext ⟨fun h => by cases h; assumption, fun h => .agg l h⟩
theorem pb_tup {n : Nat} {l : List PV} : PV.Below n (.tup l) = ∀ p, p ∈ l → PV.Below n p := propext ⟨fun h => by cases h; assumption, fun h => .tup l h⟩
theorem pb_ifc {n : Nat} {t : TypeId} {x : PV} : PV.Below n (.ifc t x) = PV.Below n x := propext ⟨fun h => by cases h; assumption, fun h => .ifc t x h⟩
theorem ob_cells {n : Nat} {cs : List PV} : PObj.Below n (.cells cs) = ∀ p, p ∈ cs → PV.Below n p := propext ⟨fun h => by cases h; assumption, fun h => .cells cs h⟩
theorem ob_row {n sz : Nat} {E : TypeId} {cs : List PV} : PObj.Below n (.row E sz cs) = ∀ p, p ∈ cs → PV.Below n p := propext ⟨fun h => by cases h; assumption, fun h => .row E sz cs h⟩
theorem ob_map {n : Nat} {ks vs : List PV} : PObj.Below n (.map ks vs) = ((∀ p, p ∈ ks → PV.Below n p) ∧ ∀ p, p ∈ vs → PV.Below n p) := propext ⟨fun h => by cases h; exact ⟨‹_›, ‹_›⟩, fun h => .map ks vs h.1 h.2⟩
theorem ob_siter {n : Nat} {l : List UInt8} {i : Nat} : PObj.Below n (.siter l i) = True := eq_true (.siter l i)
theorem ob_miter {n m k : Nat} {l : List Nat} : PObj.Below n (.miter m k l) = (m < n) := propext ⟨fun h => by cases h; assumption, fun h => .miter m k l h⟩
theorem ob_frz {n : Nat} {l : List D} : PObj.Below n (.frz l) = True := eq_true (.frz l)
theorem lb_nil {n : Nat} : LB n [] = True := rfl
theorem lb_cons {n j : Nat} {p : PV} {r : List (Nat × PV)} : LB n ((j, p) :: r) = (PV.Below n p ∧ LB n r) := rfl
theorem db_nil {n : Nat} : DB n [] = True := eq_true (fun d h => by simp at h)
theorem mt_nil {a : PA} : Match a [] = True := rfl
theorem mt_cons {a : PA} {j : Nat} {p : PV} {r : List (Nat × PV)} : Match a ((j, p) :: r) = (a.t j = p ∧ Match a r) := rfl
theorem allB {n : Nat} {l : List D} : (∀ p, p ∈ l.map PV.d → PV.Below n p) = True := eq_true (fun p hp => by obtain ⟨x, _, rfl⟩ := List.mem_map.1 hp; exact .d x)

theorem hb_app {h l : List PObj} (hb : HB h) (hl : ∀ o, o ∈ l → o.Below (h.length + l.length)) : HB (h ++ l) := by
  intro o ho
  rw [List.length_append]
  rcases List.mem_append.1 ho with h1 | h1
  · exact (hb o h1).mono (by omega)
  · exact hl o h1
theorem hb_set {h : List PObj} (hb : HB h) {i : Nat} {x : PObj} (hx : x.Below h.length) : HB (h.set i x) := by
  intro o ho
  rw [List.length_set]
  rcases List.mem_or_eq_of_mem_set ho with h1 | h1
  · exact hb o h1
  · rw [h1]; exact hx

/-- what is asked at a loop's head, where own objects lie behind the ones that came in -/
theorem hd1 {h l : List PObj} {a : PA} {L : List (Nat × PV)} (hb : HB h)
    (hl : ∀ o, o ∈ l → o.Below (h.length + l.length) := by simp only [List.mem_cons, List.not_mem_nil, or_false, forall_eq_or_imp, forall_eq, ob_cells, ob_row, ob_map, ob_siter, ob_miter, ob_frz, pb_d, pb_ptr, pb_row, pb_mp, pb_it, pb_junk, pb_fn, pb_agg, pb_tup, pb_ifc, allB, rowOf_B, List.length_cons, List.length_nil, false_implies, implies_true, and_true, true_and] <;> (try omega))
    (hL : LB (h ++ l).length L := by simp only [lb_nil, lb_cons, pb_d, pb_ptr, pb_row, pb_mp, pb_it, pb_junk, pb_fn, pb_agg, pb_tup, pb_ifc, List.mem_cons, List.not_mem_nil, or_false, forall_eq_or_imp, forall_eq, List.length_append, List.length_cons, List.length_nil, false_implies, implies_true, and_true, true_and] <;> (try omega))
    (hD : a.ds = [] := by simp only [put_ds, start_ds, mk_ds, rs_ds]) : h.length ≤ (h ++ l).length ∧ HB (h ++ l) ∧ LB (h ++ l).length L ∧ DB (h ++ l).length a.ds :=
  ⟨by simp, hb_app hb hl, hL, by rw [hD, db_nil]; trivial⟩

/-- where ways come together: of the frame the listed slots are known -/
theorem pwp_join {P : Program} {B : Array Obj} {h l : List PObj} {a : PA} {Q : PPost} (L : List (Nat × PV)) (F : Prop) {x y : Code} (c : h.length ≤ (h ++ l).length ∧ HB (h ++ l) ∧ LB (h ++ l).length L ∧ DB (h ++ l).length a.ds)
    (k : PWp P B h.length x (thenP (fun a' h' => Match a' L ∧ F ∧ a'.N = a.N ∧ a'.ds = a.ds ∧ ∃ X, h' = h ++ l ++ X) Q) a (h ++ l)) (k2 : F → PWp P B h.length y Q ⟨look L, a.N, a.ds⟩ (h ++ l)) : PWp P B h.length (.seq x y) Q a (h ++ l) :=
  pwp_mid L F (h ++ l) (fun _ => c.2.1) c.1 c.2.2.1 c.2.2.2 k k2

/-- where ways come together: of the frame the listed slots are known; the objects have turned -/
theorem pwp_join2 {P : Program} {B : Array Obj} {h l l0 : List PObj} {a : PA} {Q : PPost} (L : List (Nat × PV)) (F : Prop) {x y : Code} (c : h.length ≤ (h ++ l).length ∧ HB (h ++ l) ∧ LB (h ++ l).length L ∧ DB (h ++ l).length a.ds)
    (k : PWp P B h.length x (thenP (fun a' h' => Match a' L ∧ F ∧ a'.N = a.N ∧ a'.ds = a.ds ∧ ∃ X, h' = h ++ l ++ X) Q) a (h ++ l0)) (k2 : F → PWp P B h.length y Q ⟨look L, a.N, a.ds⟩ (h ++ l)) : PWp P B h.length (.seq x y) Q a (h ++ l0) :=
  pwp_mid L F (h ++ l) (fun _ => c.2.1) c.1 c.2.2.1 c.2.2.2 k k2

/-- what lies behind is forgotten, and of the frame all but the listed slots -/
theorem pwp_drop {P : Program} {B : Array Obj} {m : Nat} {H X : List PObj} {a : PA} {Q : PPost} {x : Code} (L : List (Nat × PV)) (c : m ≤ H.length ∧ HB H ∧ LB H.length L ∧ DB H.length a.ds) (hm : Match a L)
    (k : PWp P B m x Q ⟨look L, a.N, a.ds⟩ H) : PWp P B m x Q a (H ++ X) := by
  intro _ e w act s ra
  have ra2 := ra.look (n := H.length) hm c.2.2.1 c.2.2.2
  refine wp_mono (k c.1 (e.cut H.length) w act (s.cut c.2.1) ra2) fun _ _ _ l => ?_
  obtain ⟨px, e2, a2, h2, r1, r2, r3, r4, r5⟩ := l
  exact ⟨px, e2, a2, h2, r1, r2, r3, r4, ⟨r5.I, r5.mem, r5.G, r5.n, r5.size, r5.os, r5.tape, r5.output⟩⟩

/-- less is known of the frame's data -/
theorem pwp_fg {P : Program} {B : Array Obj} {m : Nat} {h : List PObj} {a : PA} {Q : PPost} {x : Code} (k : PWp P B m x Q ⟨fun i => (a.t i).fgd, a.N, a.ds⟩ h) : PWp P B m x Q a h :=
  fun hm e w act s ra => k hm e w act s ⟨ra.size, fun i => (ra.t i).fgd, ra.len, ra.ds⟩

/-- a row that grows by what a function gives of each element -/
def rowOf (g : Fm → Fm) (l : List Fm) : List PV := l.map fun x => .d (dF (g x))
theorem rowOf_len (g : Fm → Fm) (l : List Fm) : (rowOf g l).length = l.length := by simp [rowOf]
theorem rowOf_succ (g : Fm → Fm) {l : List Fm} {i : Nat} (h : i < l.length) : rowOf g (l.take (i + 1)) = rowOf g (l.take i) ++ [.d (dFu (g (l.getD i default)))] := by
  rw [List.take_add_one, List.getElem?_eq_getElem h, List.getD_eq_getElem?_getD, List.getElem?_eq_getElem h]
  simp only [rowOf, Option.toList_some, List.map_append, List.map_cons, List.map_nil, Option.getD_some, dF_eq]
def rowD (g : Fm → Fm) (l : List Fm) : List D := l.map fun x => dF (g x)
theorem rowD_len (g : Fm → Fm) (l : List Fm) : (rowD g l).length = l.length := by simp [rowD]
theorem rowD_getD (g : Fm → Fm) {l : List Fm} {i : Nat} (h : i < l.length) : (rowD g l).getD i default = dFu (g (l.getD i default)) := by
  simp [rowD, List.getD_eq_getElem?_getD, List.getElem?_eq_getElem h, dF_eq]
theorem rowD_eq (g : Fm → Fm) (l : List Fm) : rowD g l = (l.map g).map dF := by simp [rowD, Function.comp_def]
theorem rowOf_d (g : Fm → Fm) (l : List Fm) : rowOf g l = (rowD g l).map PV.d := by simp [rowOf, rowD, Function.comp_def]
theorem rowOf_B {n : Nat} (g : Fm → Fm) (l : List Fm) : (∀ p, p ∈ rowOf g l → PV.Below n p) = True := by rw [rowOf_d]; exact allB

/-- the frame at a loop's head -/
theorem mt {a : PA} {L : List (Nat × PV)} (h : Match a L := by (simp only [mt_nil, mt_cons, put_t, put_none, start_t, mk_t, rs_t, argAt, look, Nat.reduceEqDiff, reduceIte, if_true, if_false, and_true, true_and]) <;> (try (repeat' (first | rfl | apply And.intro)))) : Match a L := h
theorem w64 {n : Int} (h1 : -9223372036854775808 ≤ n := by omega) (h2 : n ≤ 9223372036854775807 := by omega) : IntKind.i64.wrap n = n := by
  simp only [IntKind.wrap, IntKind.signed, IntKind.bits]
  simp
  omega
/-- the next round's number -/
theorem wsucc {i n : Nat} (h : i < n) (hn : (n : Int) ≤ 9223372036854775807) : IntKind.i64.wrap ((i : Int) + 1) = ((i + 1 : Nat) : Int) := by rw [w64]; rfl
end Go.Proofs.YtgpbkphiipjjoaaGreatDoor.Pv
end

/- Calls that turn objects of the caller's. -/
section
namespace Go.Proofs.YtgpbkphiipjjoaaGreatDoor.Pv
open Go

section
variable {P : Program} {B : Array Obj}
/-- a body whose result is data, and behind which the caller's objects are H -/
theorem wc_start {f : FuncId} {fn : Func} {N : Nat} {c : Code} {rl : List ResultVar} {args : List PV} {h H : List PObj} {v : D} (hf : P.funcs[f]? = some fn) (hN : fn.ntmps = N) (hb : fn.body = some c)
    (hn : (fn.name == "runtime.NumGoroutine") = false) (hr : fn.results = rl.toArray) (hl : args.length ≤ N) (hle : h.length ≤ H.length) (hH : HB h → HB H)
    (k : HB h → PWp P B h.length c (bodyC P rl fun r h2 => (∃ x, r = .ret (.d x) ∧ DW x v) ∧ ∃ X, h2 = H ++ X) (PA.start args N) h) : PCalls P B f args h fun r h' => r = .ret (.d v) ∧ h' = H := by
  have := (pcalls_start hf hN hb hn hr hl k).cut (K' := fun r h2 => (∃ x, r = .ret (.d x) ∧ DW x v) ∧ h2 = H) fun hb r h' ⟨⟨x, hr, hx⟩, X, hX⟩ => ⟨H, X, hX, hle, hH hb, by subst hr; exact .d _, ⟨x, hr, hx⟩, rfl⟩
  refine fun e w vs s r => (this e w vs s r).mono fun en w' hk => ?_
  obtain ⟨r, e', h', ⟨⟨x, rfl, hx⟩, hh⟩, hr, s', x'⟩ := hk
  refine ⟨.ret (.d v), e', h', ⟨rfl, hh⟩, ?_, s', x'⟩
  cases en <;> try exact hr.elim
  exact .d _ _ (hx.rd (rv_d hr))

/-- a body whose result is no data, behind which the caller's objects are H -/
theorem wp_start {f : FuncId} {fn : Func} {N : Nat} {c : Code} {rl : List ResultVar} {args : List PV} {h H : List PObj} {v : PV} (hf : P.funcs[f]? = some fn) (hN : fn.ntmps = N) (hb : fn.body = some c)
    (hn : (fn.name == "runtime.NumGoroutine") = false) (hr : fn.results = rl.toArray) (hl : args.length ≤ N) (hle : h.length ≤ H.length) (hH : HB h → HB H) (hv : v.Below H.length)
    (k : HB h → PWp P B h.length c (bodyC P rl fun r h2 => r = .ret v ∧ ∃ X, h2 = H ++ X) (PA.start args N) h) : PCalls P B f args h fun r h' => r = .ret v ∧ h' = H :=
  (pcalls_start hf hN hb hn hr hl k).cut (K' := fun r h2 => r = .ret v ∧ h2 = H) fun hb r h' ⟨hr, X, hX⟩ => ⟨H, X, hX, hle, hH hb, by subst hr; exact hv, hr, rfl⟩

/-- a call with an effect -/
theorem wc_use {f : FuncId} {args : List PV} {v : PV} {h H : List PObj} {K Kp : PV → List PObj → Prop} (c : PCalls P B f args h fun r h' => r = .ret v ∧ h' = H) (k : K v H) : PCalls P B f args h (retK K Kp) :=
  c.mono fun r h' ⟨hr, hh⟩ => by subst hr; subst hh; exact k
end
theorem hset_lt {h : List PObj} {i : Nat} (hi : i < h.length) (l : List PObj) (x : PObj) : (h ++ l).set i x = h.set i x ++ l := by
  rw [List.set_append_left _ _ hi]
theorem hset_set {h : List PObj} {i : Nat} (hi : i < h.length) (l : List PObj) (x y : PObj) : (h.set i x ++ l).set i y = h.set i y ++ l := by
  rw [List.set_append_left _ _ (by simpa using hi), List.set_set]
theorem hget_set {h : List PObj} {i : Nat} (hi : i < h.length) (l : List PObj) (x : PObj) : (h.set i x ++ l)[i]? = some x := by
  rw [List.getElem?_append_left (by simpa using hi), List.getElem?_set_self hi]
theorem hget_set_ne {h : List PObj} {i j : Nat} {y : PObj} (hj : h[j]? = some y) (hij : i ≠ j) (l : List PObj) (x : PObj) : (h.set i x ++ l)[j]? = some y := by
  have hl : j < h.length := (List.getElem?_eq_some_iff.1 hj).1
  rw [List.getElem?_append_left (by simpa using hl), List.getElem?_set_ne hij, hj]
theorem hget_lt {h : List PObj} {j : Nat} {y : PObj} (hj : h[j]? = some y) : j < h.length := (List.getElem?_eq_some_iff.1 hj).1

/-- what is asked at a loop's head, where the caller's objects have turned -/
theorem hd2 {h h2 l : List PObj} {a : PA} {L : List (Nat × PV)} (e : h2.length = h.length) (hb : HB h2)
    (hl : ∀ o, o ∈ l → o.Below (h.length + l.length) := by simp only [List.mem_cons, List.not_mem_nil, or_false, forall_eq_or_imp, forall_eq, ob_cells, ob_row, ob_map, ob_siter, ob_miter, ob_frz, pb_d, pb_ptr, pb_row, pb_mp, pb_it, pb_junk, pb_fn, pb_agg, pb_tup, pb_ifc, allB, rowOf_B, List.length_cons, List.length_nil, false_implies, implies_true, and_true, true_and] <;> (try omega))
    (hL : LB (h.length + l.length) L := by simp only [lb_nil, lb_cons, pb_d, pb_ptr, pb_row, pb_mp, pb_it, pb_junk, pb_fn, pb_agg, pb_tup, pb_ifc, List.mem_cons, List.not_mem_nil, or_false, forall_eq_or_imp, forall_eq, List.length_append, List.length_cons, List.length_nil, false_implies, implies_true, and_true, true_and] <;> (try omega))
    (hD : a.ds = [] := by simp only [put_ds, start_ds, mk_ds, rs_ds]) : h.length ≤ (h2 ++ l).length ∧ HB (h2 ++ l) ∧ LB (h2 ++ l).length L ∧ DB (h2 ++ l).length a.ds :=
  ⟨by simp; omega, hb_app hb (by rw [e]; exact hl), by rw [List.length_append, e]; exact hL, by rw [hD, db_nil]; trivial⟩

/-- where ways come together, and the caller's objects have turned -/
theorem pwp_joinS {P : Program} {B : Array Obj} {h h2 H0 l : List PObj} {a : PA} {Q : PPost} (L : List (Nat × PV)) (F : Prop) {x y : Code} (c : h.length ≤ (h2 ++ l).length ∧ HB (h2 ++ l) ∧ LB (h2 ++ l).length L ∧ DB (h2 ++ l).length a.ds)
    (k : PWp P B h.length x (thenP (fun a' h' => Match a' L ∧ F ∧ a'.N = a.N ∧ a'.ds = a.ds ∧ ∃ X, h' = h2 ++ l ++ X) Q) a H0) (k2 : F → PWp P B h.length y Q ⟨look L, a.N, a.ds⟩ (h2 ++ l)) : PWp P B h.length (.seq x y) Q a H0 :=
  pwp_mid L F (h2 ++ l) (fun _ => c.2.1) c.1 c.2.2.1 c.2.2.2 k k2

/-- a loop of so many rounds -/
def prounds (P : Program) (B : Array Obj) (m : Nat) (c : Code) (Q : PPost) : Nat → PA → List PObj → Prop
  | 0, _, _ => False
  | n + 1, a, h => PWp P B m c (thenP (fun a' h' => prounds P B m c Q n a' h') Q) a h
theorem rounds_of {P : Program} {B : Array Obj} {m : Nat} {c : Code} {Q : PPost} {e0 : Env} {w0 : World} : ∀ (n : Nat) (a : PA) (h : List PObj) (e : Env) (w : World) (act : Act), prounds P B m c Q n a h → m ≤ h.length → Sim B e h w → RA w e a act → Ext m e0 w0 e w → Code.rounds P c (lift B m Q e0 w0) n act w
  | 0, _, _, _, _, _, k, _, _, _, _ => k.elim
  | n + 1, a, h, e, w, act, k, hm, s, ra, x => by
    rw [rounds_succ]
    refine wp_mono (k hm e w act s ra) fun ex act' w' l => ?_
    obtain ⟨px, e', a', h', q, rx, s', ra', ext⟩ := l
    have x' := x.trans ext (Nat.le_refl _)
    cases px <;> cases ex <;> try exact rx.elim
    case normal.normal => exact rounds_of n a' h' e' w' act' q (by rw [← s'.n]; exact ext.n) s' ra' x'
    all_goals exact ⟨_, e', a', h', q, rx, s', ra', x'⟩
theorem pwp_rounds {P : Program} {B : Array Obj} {m : Nat} {c : Code} {Q : PPost} {a : PA} {h : List PObj} (n : Nat) (k : prounds P B m c Q n a h) : PWp P B m (.loop c) Q a h :=
  fun hm e w act s ra => wp_loop_rounds n (rounds_of n a h e w act k hm s ra (Ext.refl (by rw [s.n]; exact hm) _))
theorem pr_succ {P : Program} {B : Array Obj} {m : Nat} {c : Code} {Q : PPost} {a : PA} {h : List PObj} {n : Nat} (k : PWp P B m c (thenP (fun a' h' => prounds P B m c Q n a' h') Q) a h) : prounds P B m c Q (n + 1) a h := k
end Go.Proofs.YtgpbkphiipjjoaaGreatDoor.Pv
end

/- Formulas: are two the same? -/
section
namespace Go.Proofs.YtgpbkphiipjjoaaGreatDoor.Pv
open Go
set_option maxRecDepth 100000
set_option linter.unusedSimpArgs false

open Classical in
noncomputable def sameF (f g : Fm) : Bool := decide (f = g)

set_option maxHeartbeats 4000000
theorem same_ret (B : Array Obj) (hm : Tryz.prog.follows .mixedOrders = true) (f : Fm) : ∀ g : Fm, PRet Tryz.prog B 11 [.d (dFu f), .d (dFu g)] (.bool (sameF f g)) := by
  induction f using Fm.ind with
  | _ f ih =>
  intro g
  refine pret_start Tryz.func11 Tryz.ntmps11 rfl (by decide) rfl (by simp) fun h hb => ?_
  refine vcC_sound _ _ _ _ ?_
  refine sm ?_
  simp only [decide_eq_true_eq, decide_eq_false_iff_not, ne_eq, Decidable.not_not]
  refine ⟨fun h1 => ⟨fun h2 => ⟨fun h3 => fun _ => fun _ => ⟨fun h4 => ?_, fun h4 => ?_⟩, fun h3 => ?_⟩, fun h2 => ?_⟩, fun h1 => ?_⟩
  · refine leaf (?_ : D.bool false = _)
    have : ¬ f = g := fun e => h4 (by rw [e])
    simp [sameF, this]
  · refine pwp_loop (κ := Nat) (fun i => [(2, .ptr h.length 0), (3, .ptr (h.length + 1) 0), (5, .d (.int .i64 i))]) (fun _ => _) (fun i => i ≤ f.kids.length ∧ ∀ j, j < i → f.kids.getD j default = g.kids.getD j default) (fun i => f.kids.length - i)
      (fun k hk => hd1 hb) ⟨0, [], ⟨by omega, fun j hj => by omega⟩, mt, (List.append_nil _).symm⟩ fun i hi => ?_
    refine vcC_sound _ _ _ _ (sm ?_)
    refine fun _ => ⟨fun hlt => ?_, fun hge => ?_⟩
    · have hlt : i < f.kids.length := by have := of_decide_eq_true hlt; omega
      refine pwp_drawn [.q, .r 0 0, .q, .r 0 0, .r 0 0, .q, .r 0 0, .q, .r 0 0, .r 0 0, .q, .q] hm (by kernel_rfl) (sm ?_)
      simp only [getD_map_lt (g := dF) hlt, getD_map_lt (g := dF) (show i < g.kids.length by omega)]
      refine sm ?_
      refine ⟨by omega, by omega, exQ.use (ih _ (getD_memF hlt) (g.kids.getD i default)) (sm ?_)⟩
      refine ⟨fun hs => ?_, fun hs => ?_⟩
      · refine leaf (?_ : D.bool false = _)
        have : ¬ f = g := fun e => by rw [e] at hs; simp [sameF] at hs
        simp [sameF, this]
      · rw [wsucc hlt (by omega)]
        refine ⟨i + 1, [], ⟨by omega, fun j hj => ?_⟩, by omega, mt, rfl⟩
        by_cases hji : j = i
        · subst hji; simpa [sameF] using hs
        · exact hi.2 j (by omega)
    · have hge := of_decide_eq_false hge
      refine leaf (?_ : D.bool true = _)
      have : f = g := Fm.ext' h1 h2 h3 (List.ext_getElem (by omega) fun j q1 q2 => by
        have := hi.2 j (by omega)
        simpa [List.getD_eq_getElem?_getD, q1, q2] using this)
      simp [sameF, this]
  · refine leaf (?_ : D.bool false = _)
    have : ¬ f = g := fun e => h3 (by rw [e])
    simp [sameF, this]
  · refine leaf (?_ : D.bool false = _)
    have : ¬ f = g := fun e => h2 (by rw [e])
    simp [sameF, this]
  · refine leaf (?_ : D.bool false = _)
    have : ¬ f = g := fun e => h1 (by rw [e])
    simp [sameF, this]
end Go.Proofs.YtgpbkphiipjjoaaGreatDoor.Pv
end

/- Formulas: few, deep, and what may be. -/
section
namespace Go.Proofs.YtgpbkphiipjjoaaGreatDoor.Pv
open Go
set_option maxRecDepth 100000
set_option maxHeartbeats 4000000
set_option linter.unusedSimpArgs false

mutual
def allF (p : Fm → Bool) : Fm → Bool
  | .mk k n l ks => p (.mk k n l ks) && allFL p ks
def allFL (p : Fm → Bool) : List Fm → Bool
  | [] => true
  | x :: r => allF p x && allFL p r
end
theorem allFL_all (p : Fm → Bool) : ∀ l, allFL p l = l.all (allF p)
  | [] => rfl
  | x :: r => by rw [allFL, List.all_cons, allFL_all p r]
theorem allF_eq (p : Fm → Bool) (f : Fm) : allF p f = (p f && f.kids.all (allF p)) := by cases f; rw [allF, allFL_all]; rfl

mutual
def deepF : Fm → Int → Bool
  | .mk _ _ _ ks, m => decide (0 < m) && deepFL ks (m - 1)
def deepFL : List Fm → Int → Bool
  | [], _ => true
  | x :: r, m => deepF x m && deepFL r m
end
theorem deepFL_all : ∀ l m, deepFL l m = l.all fun x => deepF x m
  | [], _ => rfl
  | x :: r, m => by rw [deepFL, List.all_cons, deepFL_all r]
theorem deepF_eq (f : Fm) (m : Int) : deepF f m = (decide (0 < m) && f.kids.all fun x => deepF x (m - 1)) := by cases f; rw [deepF, deepFL_all]; rfl

theorem all_take_succ {l : List Fm} {p : Fm → Bool} {i : Nat} (h : i < l.length) : (l.take (i + 1)).all p = ((l.take i).all p && p (l.getD i default)) := by
  rw [List.take_add_one, List.getElem?_eq_getElem h, List.all_append, List.getD_eq_getElem?_getD, List.getElem?_eq_getElem h]
  simp
theorem all_take_false {l : List Fm} {p : Fm → Bool} {i : Nat} (h : (l.take i).all p = false) : l.all p = false := by
  rw [← Bool.not_eq_true, List.all_eq_true] at h ⊢
  exact fun h2 => h (fun x hx => h2 x (List.mem_of_mem_take hx))
theorem all_take_len {l : List Fm} {p : Fm → Bool} {i : Nat} (h : l.length ≤ i) : (l.take i).all p = l.all p := by rw [List.take_of_length_le h]

/-- the kinds that are left -/
def fewK (f : Fm) : Bool := decide (f.kind = 2) || decide (f.kind = 3) || decide (f.kind = 4) || decide (f.kind = 5) || decide (f.kind = 9) || decide (f.kind = 15) || decide (f.kind = 13)

theorem few_ret (B : Array Obj) (f : Fm) : PRet Tryz.prog B 14 [.d (dFu f)] (.bool (allF fewK f)) := by
  induction f using Fm.ind with
  | _ f ih =>
  refine pret_start Tryz.func14 Tryz.ntmps14 rfl (by decide) rfl (by simp) fun h hb => ?_
  refine pwp_seq (vcC_sound _ _ _ _ (sm ?_))
  refine pwp_join [(1, .ptr h.length 0)] (fewK f = true) (hd1 hb) (vcC_sound _ _ _ _ (sm ?_)) fun hF => ?_
  · repeat' (first | with_reducible refine And.intro ?_ ?_ | with_reducible intro _)
    all_goals first
      | exact ⟨[], rfl⟩
      | exact mt
      | (simp_all [fewK]; done)
      | (refine leaf (?_ : D.bool false = _); rw [allF_eq]; simp_all [fewK])
  · refine vcC_sound _ _ _ _ (sm ?_)
    refine pwp_loop (κ := Nat) (fun i => [(1, .ptr h.length 0), (3, .d (.int .i64 i))]) (fun _ => _) (fun i => i ≤ f.kids.length ∧ (f.kids.take i).all (allF fewK) = true) (fun i => f.kids.length - i)
      (fun k hk => hd1 hb) ⟨0, [], ⟨by omega, rfl⟩, mt, (List.append_nil _).symm⟩ fun i hi => ?_
    refine vcC_sound _ _ _ _ (sm ?_)
    refine fun hn => ⟨fun h1 => ?_, fun h1 => ?_⟩
    · have hlt : i < f.kids.length := by have := of_decide_eq_true h1; omega
      simp only [getD_map_lt (g := dF) hlt]
      refine sm ?_
      refine ⟨by omega, PRet.use (ih _ (getD_memF hlt)) (sm ?_)⟩
      refine ⟨fun hs => ?_, fun hs => ?_⟩
      · refine leaf (?_ : D.bool false = _)
        have := all_take_succ (p := allF fewK) hlt
        rw [hs, Bool.and_false] at this
        rw [allF_eq, all_take_false this, Bool.and_false]
      · rw [wsucc hlt (by omega)]
        exact ⟨i + 1, [], ⟨by omega, by rw [all_take_succ hlt, hi.2]; simpa using hs⟩, by omega, mt, rfl⟩
    · refine leaf (?_ : D.bool true = _)
      have hge : f.kids.length ≤ i := by have := of_decide_eq_false h1; omega
      rw [allF_eq, hF, ← all_take_len (p := allF fewK) hge, hi.2]; rfl

theorem deep_ret (B : Array Obj) (f : Fm) : ∀ m : Int, -9223372036854775808 ≤ m → m ≤ 9223372036854775807 → PRet Tryz.prog B 15 [.d (dFu f), .d (.int .i64 m)] (.bool (deepF f m)) := by
  induction f using Fm.ind with
  | _ f ih =>
  intro m hm1 hm2
  refine pret_start Tryz.func15 Tryz.ntmps15 rfl (by decide) rfl (by simp) fun h hb => ?_
  refine vcC_sound _ _ _ _ (sm ?_)
  refine pwp_loop (κ := Nat) (fun i => [(1, .d (.int .i64 m)), (2, .ptr h.length 0), (5, .d (.bool (decide (0 < m) && (f.kids.take i).all fun x => deepF x (m - 1)))), (6, .d (.int .i64 i))]) (fun _ => _) (fun i => i ≤ f.kids.length) (fun i => f.kids.length - i)
      (fun k hk => hd1 hb) ⟨0, [], by omega, mt (by simp [mt_cons, mt_nil, put_t, start_t, argAt]), (List.append_nil _).symm⟩ fun i hi => ?_
  refine vcC_sound _ _ _ _ (sm ?_)
  refine fun hn => ⟨fun h1 => ⟨fun h2 => ?_, fun h2 => ?_⟩, fun h1 => ?_⟩
  · have hlt : i < f.kids.length := by have := of_decide_eq_true h1; omega
    simp only [Bool.and_eq_true, decide_eq_true_eq] at h2
    simp only [getD_map_lt (g := dF) hlt]
    refine sm ?_
    rw [w64 (n := m - 1)]
    refine ⟨by omega, PRet.use (ih _ (getD_memF hlt) (m - 1) (by omega) (by omega)) (sm ?_)⟩
    rw [wsucc hlt (by omega), show deepF (f.kids.getD i default) (m - 1) = (decide (0 < m) && (f.kids.take (i + 1)).all fun x => deepF x (m - 1)) by rw [all_take_succ hlt, h2.2]; simp [h2.1]]
    exact ⟨i + 1, [], by omega, by omega, mt, rfl⟩
  · refine leaf ?_
    rw [h2, deepF_eq]
    cases hm : decide (0 < m) with
    | false => rfl
    | true =>
      rw [hm, Bool.true_and] at h2
      rw [all_take_false h2]; rfl
  · refine leaf ?_
    have hge : f.kids.length ≤ i := by have := of_decide_eq_false h1; omega
    rw [all_take_len (p := fun x => deepF x (m - 1)) hge, ← deepF_eq]; rfl
end Go.Proofs.YtgpbkphiipjjoaaGreatDoor.Pv
end

/- The library's searches by a test: slices.IndexFunc, ContainsFunc. -/
section
namespace Go.Proofs.YtgpbkphiipjjoaaGreatDoor.Pv
open Go
set_option maxRecDepth 100000
set_option maxHeartbeats 4000000
set_option linter.unusedSimpArgs false

def idxP {α : Type} (q : α → Bool) : List α → Nat → Int
  | [], _ => -1
  | x :: r, i => if q x then (i : Int) else idxP q r (i + 1)
theorem idxP_any {α : Type} (q : α → Bool) : ∀ (l : List α) (i : Nat), decide (0 ≤ idxP q l i) = l.any q
  | [], i => by simp [idxP]
  | x :: r, i => by
    unfold idxP
    cases hq : q x with
    | true => simp [hq]
    | false => simp [hq, idxP_any q r (i + 1)]
theorem idxP_at {α : Type} [Inhabited α] (q : α → Bool) : ∀ (l : List α) (i k : Nat), i < l.length → (∀ j, j < i → q (l.getD j default) = false) → q (l.getD i default) = true → idxP q l k = ((i + k : Nat) : Int)
  | [], i, k, h, _, _ => by simp at h
  | x :: r, 0, k, _, _, h => by simp at h; simp [idxP, h]
  | x :: r, i + 1, k, hl, hn, h => by
    have h0 := hn 0 (by omega)
    simp at h0
    unfold idxP
    rw [h0, idxP_at q r i (k + 1) (by simpa using hl) (fun j hj => by have := hn (j + 1) (by omega); simpa using this) (by simpa using h)]
    simp; omega
theorem idxP_none {α : Type} [Inhabited α] (q : α → Bool) : ∀ (l : List α) (k : Nat), (∀ j, j < l.length → q (l.getD j default) = false) → idxP q l k = -1
  | [], k, _ => rfl
  | x :: r, k, hn => by
    have h0 := hn 0 (by simp)
    simp at h0
    unfold idxP
    rw [h0, idxP_none q r (k + 1) (fun j hj => by have := hn (j + 1) (by simpa using hj); simpa using this)]
    rfl

theorem fmIdx (B : Array Obj) (l : List Fm) (cl : Bool) (p : PV) (g : FuncId) (first caps : List PV) (hp : fnOf p = some (g, first, caps)) (h : List PObj) (hb0 : p.Below h.length) (q : Fm → Bool)
    (hq : ∀ x, x ∈ l → PCalls Tryz.prog B g (first ++ .d (dFu x) :: caps) h fun r h' => r = .ret (.d (.bool (q x))) ∧ h' = h) :
    PCalls Tryz.prog B 95 [.d (.sl (l.map dF) cl), p] h fun r h' => r = .ret (.d (.int .i64 (idxP q l 0))) ∧ h' = h := by
  refine rc_start Tryz.func95 Tryz.ntmps95 rfl (by decide) rfl (by simp) fun hb => ?_
  refine vcC_sound _ _ _ _ (sm ?_)
  intro hn
  refine pwp_loop (κ := Nat) (fun i => [(0, .d (.sl (l.map dF) cl)), (1, p), (7, .d (.int .i64 l.length)), (8, .d (.int .i64 i))]) (fun _ => h) (fun i => i ≤ l.length ∧ ∀ j, j < i → q (l.getD j default) = false) (fun i => l.length - i)
    (fun k hk => ⟨Nat.le_refl _, hb, by simp only [lb_nil, lb_cons, pb_d, true_and, and_true]; exact hb0, by simp only [put_ds, start_ds, db_nil]⟩) ⟨0, [], ⟨by omega, fun j hj => by omega⟩, mt, (List.append_nil _).symm⟩ fun i hi => ?_
  refine vcC_sound _ _ _ _ (sm ?_)
  refine ⟨fun h1 => ?_, fun h1 => ?_⟩
  · have hlt : i < l.length := by have := of_decide_eq_true h1; omega
    simp only [getD_map_lt (g := dF) hlt]
    refine sm ?_
    simp only [hp]
    refine ⟨by omega, rc_use (hq _ (getD_mem' hlt)) (sm ?_)⟩
    refine ⟨fun hs => ?_, fun hs => ?_⟩
    · refine leaf ?_
      rw [idxP_at q l i 0 hlt hi.2 hs]; rfl
    · rw [wsucc hlt (by omega)]
      refine ⟨i + 1, [], ⟨by omega, fun j hj => ?_⟩, by omega, mt, (List.append_nil _).symm⟩
      by_cases hji : j = i
      · rw [hji]; exact hs
      · exact hi.2 j (by omega)
  · refine leaf ?_
    have hge : l.length ≤ i := by have := of_decide_eq_false h1; omega
    rw [idxP_none q l 0 (fun j hj => hi.2 j (by omega))]; rfl

theorem fmHas (B : Array Obj) (l : List Fm) (cl : Bool) (p : PV) (g : FuncId) (first caps : List PV) (hp : fnOf p = some (g, first, caps)) (h : List PObj) (hb0 : p.Below h.length) (q : Fm → Bool)
    (hq : ∀ x, x ∈ l → PCalls Tryz.prog B g (first ++ .d (dFu x) :: caps) h fun r h' => r = .ret (.d (.bool (q x))) ∧ h' = h) :
    PCalls Tryz.prog B 55 [.d (.sl (l.map dF) cl), p] h fun r h' => r = .ret (.d (.bool (l.any q))) ∧ h' = h := by
  refine rc_start Tryz.func55 Tryz.ntmps55 rfl (by decide) rfl (by simp) fun hb => ?_
  refine vcC_sound _ _ _ _ (sm ?_)
  refine rc_use (fmIdx B l cl p g first caps hp h hb0 q hq) (sm ?_)
  refine leaf ?_
  rw [← idxP_any q l 0]; rfl

theorem ltIdx (B : Array Obj) (l : List (Int × Int)) (cl : Bool) (p : PV) (g : FuncId) (first caps : List PV) (hp : fnOf p = some (g, first, caps)) (h : List PObj) (hb0 : p.Below h.length) (q : (Int × Int) → Bool)
    (hq : ∀ x, x ∈ l → PCalls Tryz.prog B g (first ++ .d (dPair x) :: caps) h fun r h' => r = .ret (.d (.bool (q x))) ∧ h' = h) :
    PCalls Tryz.prog B 77 [.d (.sl (l.map dPair) cl), p] h fun r h' => r = .ret (.d (.int .i64 (idxP q l 0))) ∧ h' = h := by
  refine rc_start Tryz.func77 Tryz.ntmps77 rfl (by decide) rfl (by simp) fun hb => ?_
  refine vcC_sound _ _ _ _ (sm ?_)
  intro hn
  refine pwp_loop (κ := Nat) (fun i => [(0, .d (.sl (l.map dPair) cl)), (1, p), (7, .d (.int .i64 l.length)), (8, .d (.int .i64 i))]) (fun _ => h) (fun i => i ≤ l.length ∧ ∀ j, j < i → q (l.getD j default) = false) (fun i => l.length - i)
    (fun k hk => ⟨Nat.le_refl _, hb, by simp only [lb_nil, lb_cons, pb_d, true_and, and_true]; exact hb0, by simp only [put_ds, start_ds, db_nil]⟩) ⟨0, [], ⟨by omega, fun j hj => by omega⟩, mt, (List.append_nil _).symm⟩ fun i hi => ?_
  refine vcC_sound _ _ _ _ (sm ?_)
  refine ⟨fun h1 => ?_, fun h1 => ?_⟩
  · have hlt : i < l.length := by have := of_decide_eq_true h1; omega
    simp only [getD_map_lt (g := dPair) hlt]
    refine sm ?_
    simp only [hp]
    refine ⟨by omega, rc_use (hq _ (getD_mem' hlt)) (sm ?_)⟩
    refine ⟨fun hs => ?_, fun hs => ?_⟩
    · refine leaf ?_
      rw [idxP_at q l i 0 hlt hi.2 hs]; rfl
    · rw [wsucc hlt (by omega)]
      refine ⟨i + 1, [], ⟨by omega, fun j hj => ?_⟩, by omega, mt, (List.append_nil _).symm⟩
      by_cases hji : j = i
      · rw [hji]; exact hs
      · exact hi.2 j (by omega)
  · refine leaf ?_
    have hge : l.length ≤ i := by have := of_decide_eq_false h1; omega
    rw [idxP_none q l 0 (fun j hj => hi.2 j (by omega))]; rfl

theorem ltHas (B : Array Obj) (l : List (Int × Int)) (cl : Bool) (p : PV) (g : FuncId) (first caps : List PV) (hp : fnOf p = some (g, first, caps)) (h : List PObj) (hb0 : p.Below h.length) (q : (Int × Int) → Bool)
    (hq : ∀ x, x ∈ l → PCalls Tryz.prog B g (first ++ .d (dPair x) :: caps) h fun r h' => r = .ret (.d (.bool (q x))) ∧ h' = h) :
    PCalls Tryz.prog B 41 [.d (.sl (l.map dPair) cl), p] h fun r h' => r = .ret (.d (.bool (l.any q))) ∧ h' = h := by
  refine rc_start Tryz.func41 Tryz.ntmps41 rfl (by decide) rfl (by simp) fun hb => ?_
  refine vcC_sound _ _ _ _ (sm ?_)
  refine rc_use (ltIdx B l cl p g first caps hp h hb0 q hq) (sm ?_)
  refine leaf ?_
  rw [← idxP_any q l 0]; rfl

theorem nnIdx (B : Array Obj) (l : List Int) (cl : Bool) (p : PV) (g : FuncId) (first caps : List PV) (hp : fnOf p = some (g, first, caps)) (h : List PObj) (hb0 : p.Below h.length) (q : Int → Bool)
    (hq : ∀ x, x ∈ l → PCalls Tryz.prog B g (first ++ .d (dInt x) :: caps) h fun r h' => r = .ret (.d (.bool (q x))) ∧ h' = h) :
    PCalls Tryz.prog B 78 [.d (.sl (l.map dInt) cl), p] h fun r h' => r = .ret (.d (.int .i64 (idxP q l 0))) ∧ h' = h := by
  refine rc_start Tryz.func78 Tryz.ntmps78 rfl (by decide) rfl (by simp) fun hb => ?_
  refine vcC_sound _ _ _ _ (sm ?_)
  intro hn
  refine pwp_loop (κ := Nat) (fun i => [(0, .d (.sl (l.map dInt) cl)), (1, p), (7, .d (.int .i64 l.length)), (8, .d (.int .i64 i))]) (fun _ => h) (fun i => i ≤ l.length ∧ ∀ j, j < i → q (l.getD j default) = false) (fun i => l.length - i)
    (fun k hk => ⟨Nat.le_refl _, hb, by simp only [lb_nil, lb_cons, pb_d, true_and, and_true]; exact hb0, by simp only [put_ds, start_ds, db_nil]⟩) ⟨0, [], ⟨by omega, fun j hj => by omega⟩, mt, (List.append_nil _).symm⟩ fun i hi => ?_
  refine vcC_sound _ _ _ _ (sm ?_)
  refine ⟨fun h1 => ?_, fun h1 => ?_⟩
  · have hlt : i < l.length := by have := of_decide_eq_true h1; omega
    simp only [getD_map_lt (g := dInt) hlt]
    refine sm ?_
    simp only [hp]
    refine ⟨by omega, rc_use (hq _ (getD_mem' hlt)) (sm ?_)⟩
    refine ⟨fun hs => ?_, fun hs => ?_⟩
    · refine leaf ?_
      rw [idxP_at q l i 0 hlt hi.2 hs]; rfl
    · rw [wsucc hlt (by omega)]
      refine ⟨i + 1, [], ⟨by omega, fun j hj => ?_⟩, by omega, mt, (List.append_nil _).symm⟩
      by_cases hji : j = i
      · rw [hji]; exact hs
      · exact hi.2 j (by omega)
  · refine leaf ?_
    have hge : l.length ≤ i := by have := of_decide_eq_false h1; omega
    rw [idxP_none q l 0 (fun j hj => hi.2 j (by omega))]; rfl

theorem nnHas (B : Array Obj) (l : List Int) (cl : Bool) (p : PV) (g : FuncId) (first caps : List PV) (hp : fnOf p = some (g, first, caps)) (h : List PObj) (hb0 : p.Below h.length) (q : Int → Bool)
    (hq : ∀ x, x ∈ l → PCalls Tryz.prog B g (first ++ .d (dInt x) :: caps) h fun r h' => r = .ret (.d (.bool (q x))) ∧ h' = h) :
    PCalls Tryz.prog B 42 [.d (.sl (l.map dInt) cl), p] h fun r h' => r = .ret (.d (.bool (l.any q))) ∧ h' = h := by
  refine rc_start Tryz.func42 Tryz.ntmps42 rfl (by decide) rfl (by simp) fun hb => ?_
  refine vcC_sound _ _ _ _ (sm ?_)
  refine rc_use (nnIdx B l cl p g first caps hp h hb0 q hq) (sm ?_)
  refine leaf ?_
  rw [← idxP_any q l 0]; rfl

theorem nmIdx (B : Array Obj) (l : List Nm) (cl : Bool) (p : PV) (g : FuncId) (first caps : List PV) (hp : fnOf p = some (g, first, caps)) (h : List PObj) (hb0 : p.Below h.length) (q : Nm → Bool)
    (hq : ∀ x, x ∈ l → PCalls Tryz.prog B g (first ++ .d (dN x) :: caps) h fun r h' => r = .ret (.d (.bool (q x))) ∧ h' = h) :
    PCalls Tryz.prog B 85 [.d (.sl (l.map dN) cl), p] h fun r h' => r = .ret (.d (.int .i64 (idxP q l 0))) ∧ h' = h := by
  refine rc_start Tryz.func85 Tryz.ntmps85 rfl (by decide) rfl (by simp) fun hb => ?_
  refine vcC_sound _ _ _ _ (sm ?_)
  intro hn
  refine pwp_loop (κ := Nat) (fun i => [(0, .d (.sl (l.map dN) cl)), (1, p), (7, .d (.int .i64 l.length)), (8, .d (.int .i64 i))]) (fun _ => h) (fun i => i ≤ l.length ∧ ∀ j, j < i → q (l.getD j default) = false) (fun i => l.length - i)
    (fun k hk => ⟨Nat.le_refl _, hb, by simp only [lb_nil, lb_cons, pb_d, true_and, and_true]; exact hb0, by simp only [put_ds, start_ds, db_nil]⟩) ⟨0, [], ⟨by omega, fun j hj => by omega⟩, mt, (List.append_nil _).symm⟩ fun i hi => ?_
  refine vcC_sound _ _ _ _ (sm ?_)
  refine ⟨fun h1 => ?_, fun h1 => ?_⟩
  · have hlt : i < l.length := by have := of_decide_eq_true h1; omega
    simp only [getD_map_lt (g := dN) hlt]
    refine sm ?_
    simp only [hp]
    refine ⟨by omega, rc_use (hq _ (getD_mem' hlt)) (sm ?_)⟩
    refine ⟨fun hs => ?_, fun hs => ?_⟩
    · refine leaf ?_
      rw [idxP_at q l i 0 hlt hi.2 hs]; rfl
    · rw [wsucc hlt (by omega)]
      refine ⟨i + 1, [], ⟨by omega, fun j hj => ?_⟩, by omega, mt, (List.append_nil _).symm⟩
      by_cases hji : j = i
      · rw [hji]; exact hs
      · exact hi.2 j (by omega)
  · refine leaf ?_
    have hge : l.length ≤ i := by have := of_decide_eq_false h1; omega
    rw [idxP_none q l 0 (fun j hj => hi.2 j (by omega))]; rfl
end Go.Proofs.YtgpbkphiipjjoaaGreatDoor.Pv
end

/- Formulas that may be resolved ones: ref10.May, base.Resolved. -/
section
namespace Go.Proofs.YtgpbkphiipjjoaaGreatDoor.Pv
open Go
set_option maxRecDepth 100000
set_option maxHeartbeats 4000000
set_option linter.unusedSimpArgs false

def okK (f : Fm) : Bool := decide (kidsF f.kind = f.kids.length) && (decide (f.name = []) && (decide (f.lit = 0) || (decide (0 < f.lit) && decide (f.kind = 3))))
mutual
def mayF : Fm → Int → Bool
  | .mk k n l ks, m => decide (0 < m) && (okK (.mk k n l ks) && mayFL ks (m - 1))
def mayFL : List Fm → Int → Bool
  | [], _ => true
  | x :: r, m => mayF x m && mayFL r m
end
theorem mayFL_all : ∀ l m, mayFL l m = l.all fun x => mayF x m
  | [], _ => rfl
  | x :: r, m => by rw [mayFL, List.all_cons, mayFL_all r]
theorem mayF_eq (f : Fm) (m : Int) : mayF f m = (decide (0 < m) && (okK f && f.kids.all fun x => mayF x (m - 1))) := by cases f; rw [mayF, mayFL_all]; rfl

theorem may_ret (B : Array Obj) (hm : Tryz.prog.follows .mixedOrders = true) (f : Fm) : ∀ m : Int, -9223372036854775808 ≤ m → m ≤ 9223372036854775807 → PRet Tryz.prog B 32 [.d (dFu f), .d (.int .i64 m)] (.bool (mayF f m)) := by
  induction f using Fm.ind with
  | _ f ih =>
  intro m hm1 hm2
  refine pret_start Tryz.func32 Tryz.ntmps32 rfl (by decide) rfl (by simp) fun h hb => ?_
  refine pwp_seq (vcC_sound _ _ _ _ (sm ?_))
  refine pwp_join [(1, .d (.int .i64 m)), (2, .ptr h.length 0)] (0 < m ∧ okK f = true) (hd1 hb) (vcC_sound _ _ _ _ (sm ?_)) fun hF => ?_
  · refine pwp_drawn [.q, .q, .q, .q, .r 0 0, .q, .q, .r 0 0, .r 0 0, .q, .q, .q, .q, .r 0 0, .q, .q, .q, .q, .r 0 0, .q, .q, .q, .q, .r 0 0, .q, .q, .q, .r 0 0, .q, .q, .q] hm (by kernel_rfl) (sm ?_)
    refine ⟨fun h1 => exQ.use (kids_ret B f.kind) (sm ?_), fun h1 => ?_⟩
    all_goals (repeat' (first | with_reducible refine And.intro ?_ ?_ | with_reducible intro _))
    all_goals first
      | exact ⟨[], rfl⟩
      | exact mt
      | (refine leaf (?_ : D.bool false = _); rw [mayF_eq]; simp_all [okK]; done)
      | (refine leaf (?_ : D.bool false = _); rw [mayF_eq]; simp_all [okK] <;> (intros; omega))
      | (simp_all <;> omega)
      | (simp_all [okK] <;> omega)
  · refine vcC_sound _ _ _ _ (sm ?_)
    refine pwp_loop (κ := Nat) (fun i => [(1, .d (.int .i64 m)), (2, .ptr h.length 0), (5, .d (.int .i64 i))]) (fun _ => _) (fun i => i ≤ f.kids.length ∧ (f.kids.take i).all (fun x => mayF x (m - 1)) = true) (fun i => f.kids.length - i)
      (fun k hk => hd1 hb) ⟨0, [], ⟨by omega, rfl⟩, mt, (List.append_nil _).symm⟩ fun i hi => ?_
    refine vcC_sound _ _ _ _ (sm ?_)
    refine fun hn => ⟨fun h1 => ?_, fun h1 => ?_⟩
    · have hlt : i < f.kids.length := by have := of_decide_eq_true h1; omega
      simp only [getD_map_lt (g := dF) hlt]
      refine sm ?_
      rw [w64 (n := m - 1)]
      refine ⟨by omega, PRet.use (ih _ (getD_memF hlt) (m - 1) (by omega) (by omega)) (sm ?_)⟩
      refine ⟨fun hs => ?_, fun hs => ?_⟩
      · refine leaf (?_ : D.bool false = _)
        have := all_take_succ (p := fun x => mayF x (m - 1)) hlt
        rw [hs, Bool.and_false] at this
        rw [mayF_eq, all_take_false this, Bool.and_false, Bool.and_false]
      · rw [wsucc hlt (by omega)]
        exact ⟨i + 1, [], ⟨by omega, by rw [all_take_succ hlt, hi.2]; simpa using hs⟩, by omega, mt, rfl⟩
    · refine leaf (?_ : D.bool true = _)
      have hge : f.kids.length ≤ i := by have := of_decide_eq_false h1; omega
      rw [mayF_eq, hF.2, ← all_take_len (p := fun x => mayF x (m - 1)) hge, hi.2]; simp [hF.1]

theorem odd_rc (B : Array Obj) (x : Fm) (m : Int) (b : Bool) (h : List PObj) (id : Nat) (hid : h[id]? = some (.cells [.d (.int .i64 m)])) (c : PRet Tryz.prog B 29 [.d (dFu x), .d (.int .i64 (IntKind.i64.wrap (m - 1)))] (.bool b)) :
    PCalls Tryz.prog B 53 [.d (dFu x), .ptr id 0] h fun r h' => r = .ret (.d (.bool (!b))) ∧ h' = h := by
  refine rc_start Tryz.func53 Tryz.ntmps53 rfl (by decide) rfl (by simp) fun hb => ?_
  refine vcC_sound _ _ _ _ (sm ?_)
  simp only [hget_old hid]
  refine sm ?_
  refine PRet.use c (sm ?_)
  exact leaf

theorem resolved_ret (B : Array Obj) (hm : Tryz.prog.follows .mixedOrders = true) (f : Fm) : ∀ m : Int, -9223372036854775808 < m → m ≤ 9223372036854775807 → PRet Tryz.prog B 29 [.d (dFu f), .d (.int .i64 m)] (.bool (mayF f m)) := by
  induction f using Fm.ind with
  | _ f ih =>
  intro m hm1 hm2
  refine pret_start Tryz.func29 Tryz.ntmps29 rfl (by decide) rfl (by simp) fun h hb => ?_
  refine pwp_seq (vcC_sound _ _ _ _ (sm ?_))
  refine pwp_seq (vcC_sound _ _ _ _ (sm ?_))
  refine pwp_join [(2, .ptr h.length 0), (3, .ptr (h.length + 1) 0), (5, .fn (.func 53) [] [.ptr (h.length + 1) 0]), (6, .d (.bool (decide (f.lit = 0) || (decide (0 < f.lit) && decide (f.kind = 3)))))] True (hd1 hb) (vcC_sound _ _ _ _ (sm ?_)) fun _ => ?_
  · repeat' (first | with_reducible refine And.intro ?_ ?_ | with_reducible intro _)
    all_goals first
      | exact ⟨[], rfl⟩
      | trivial
      | (refine mt (by simp only [mt_cons, mt_nil, put_t, start_t, argAt]; simp_all <;> (intros; omega)))
  · refine vcC_sound _ _ _ _ (sm ?_)
    refine pwp_drawn [.r 0 0, .q, .q, .q, .q, .q, .q, .r 0 0, .q, .q, .q, .q, .r 0 0, .r 0 0, .q, .r 0 0, .q, .q, .q, .q, .q, .r 0 0, .q, .r 0 0, .q, .q, .q] hm (by kernel_rfl) (sm ?_)
    refine ⟨fun h1 => ⟨fun h2 => ⟨fun h3 => exQ.use (bkids_ret B f.kind) (sm ?_), fun h3 => ?_⟩, fun h2 => ?_⟩, fun h1 => ?_⟩
    · refine ⟨fun h4 => ?_, fun h4 => ?_⟩
      · have h1 := of_decide_eq_true h1
        refine exR.use (fmHas B f.kids false (.fn (.func 53) [] [.ptr (h.length + 1) 0]) 53 [] [.ptr (h.length + 1) 0] rfl _
          (by simp only [pb_fn, pb_ptr, List.mem_cons, List.not_mem_nil, or_false, forall_eq, List.length_append, List.length_cons, List.length_nil, false_implies, implies_true, true_and]; omega) (fun x => !mayF x (m - 1))
          (fun x hx => odd_rc B x m (mayF x (m - 1)) _ (h.length + 1) (by rw [hget_own]; rfl) (by rw [w64 (n := m - 1)]; exact ih x hx (m - 1) (by omega) (by omega)))) (pk_zero _ _ ▸ trivial) (sm ?_)
        refine leaf ?_
        rw [mayF_eq]
        have : (f.kids.any fun x => !mayF x (m - 1)) = !(f.kids.all fun x => mayF x (m - 1)) := by
          rw [List.any_eq_not_all_not]; simp
        rw [this]
        have h4' : kidsF f.kind = f.kids.length := (of_decide_eq_true h4).symm
        simp_all [okK, fg_bool]
      · refine leaf (?_ : D.bool false = _)
        rw [mayF_eq]
        have h4' : ¬ kidsF f.kind = f.kids.length := fun e => of_decide_eq_false h4 e.symm
        simp_all [okK]
    all_goals
      refine leaf (?_ : D.bool false = _)
      rw [mayF_eq]
      simp_all [okK] <;> (intros; omega)
end Go.Proofs.YtgpbkphiipjjoaaGreatDoor.Pv
end

/- Formulas with literals in the place of names: law10.lits. -/
section
namespace Go.Proofs.YtgpbkphiipjjoaaGreatDoor.Pv
open Go
set_option maxRecDepth 100000
set_option maxHeartbeats 4000000
set_option linter.unusedSimpArgs false

def litV (many : Int) (f : Fm) : Int := if f.kind = 3 then (IntKind.i64.wrap (IntKind.i64.wrap (f.name.length * 7) + (f.name.getD 0 0).toNat)).tmod (max many 1) else 0
mutual
def litsF (many : Int) : Fm → Fm
  | .mk k n l ks => .mk k [] (litV many (.mk k n l ks)) (litsFL many ks)
def litsFL (many : Int) : List Fm → List Fm
  | [] => []
  | x :: r => litsF many x :: litsFL many r
end
theorem litsFL_map (many : Int) : ∀ l, litsFL many l = l.map (litsF many)
  | [] => rfl
  | x :: r => by rw [litsFL, List.map_cons, litsFL_map many r]
theorem litsF_eq (many : Int) (f : Fm) : litsF many f = .mk f.kind [] (litV many f) (f.kids.map (litsF many)) := by cases f; rw [litsF, litsFL_map]; rfl

/-- few parts; atoms have names -/
def wfL (f : Fm) : Bool := decide (f.kids.length ≤ 2) && (decide (f.kind ≠ 3) || decide (0 < f.name.length))

def litsH (h : List PObj) (many : Int) (f : Fm) : Nat → List PObj
  | 0 => [.cells [.d (.int .i64 f.kind), .d (.str f.name), .d (.int .i64 f.lit), .d (.sl (f.kids.map dF) false)], .cells [.d (.int .i64 0), .d (.str []), .d (.int .i64 0), .d (.sl [] true)],
      .cells [.d (.int .i64 f.kind), .d (.str []), .d (.int .i64 (litV many f)), .d (.sl [] true)]]
  | n + 1 => [.cells [.d (.int .i64 f.kind), .d (.str f.name), .d (.int .i64 f.lit), .d (.sl (f.kids.map dF) false)], .cells [.d (.int .i64 0), .d (.str []), .d (.int .i64 0), .d (.sl [] true)],
      .cells [.d (.int .i64 f.kind), .d (.str []), .d (.int .i64 (litV many f)), .row (h.length + 3) (n + 1)], .row 26 4 (rowOf (litsF many) (f.kids.take (n + 1)))]

theorem litsH0 (h : List PObj) (many : Int) (f : Fm) : litsH h many f 0 = [.cells [.d (.int .i64 f.kind), .d (.str f.name), .d (.int .i64 f.lit), .d (.sl (f.kids.map dF) false)], .cells [.d (.int .i64 0), .d (.str []), .d (.int .i64 0), .d (.sl [] true)],
      .cells [.d (.int .i64 f.kind), .d (.str []), .d (.int .i64 (litV many f)), .d (.sl [] true)]] := rfl
theorem litsHs (h : List PObj) (many : Int) (f : Fm) (n : Nat) : litsH h many f (n + 1) = [.cells [.d (.int .i64 f.kind), .d (.str f.name), .d (.int .i64 f.lit), .d (.sl (f.kids.map dF) false)], .cells [.d (.int .i64 0), .d (.str []), .d (.int .i64 0), .d (.sl [] true)],
      .cells [.d (.int .i64 f.kind), .d (.str []), .d (.int .i64 (litV many f)), .row (h.length + 3) (n + 1)], .row 26 4 (rowOf (litsF many) (f.kids.take (n + 1)))] := rfl

theorem lits_ret (B : Array Obj) (hm : Tryz.prog.follows .mixedOrders = true) (many : Int) (f : Fm) : allF wfL f = true → PRet Tryz.prog B 22 [.d (dFu f), .d (.int .i64 many)] (dFu (litsF many f)) := by
  induction f using Fm.ind with
  | _ f ih =>
  intro hw
  rw [allF_eq, Bool.and_eq_true] at hw
  obtain ⟨hw1, hw2⟩ := hw
  simp only [wfL, Bool.and_eq_true, Bool.or_eq_true, decide_eq_true_eq] at hw1
  refine pret_start Tryz.func22 Tryz.ntmps22 rfl (by decide) rfl (by simp) fun h hb => ?_
  refine pwp_seq (vcC_sound _ _ _ _ (sm ?_))
  refine pwp_seq (vcC_sound _ _ _ _ (sm ?_))
  refine pwp_join2 (l := litsH h many f 0) [(1, .d (.int .i64 many)), (2, .ptr h.length 0), (4, .ptr (h.length + 1) 0), (5, .ptr (h.length + 2) 0)] True (by unfold litsH; exact hd1 hb) (vcC_sound _ _ _ _ (sm ?_)) fun _ => ?_
  · refine ⟨fun h1 => ?_, fun h1 => ?_⟩
    · have h1 := of_decide_eq_true h1
      refine pwp_drawn [.q, .r 0 0, .r 0 0, .q, .q, .r 0 0, .q, .r 0 0, .q, .q, .q, .q, .q, .e] hm (by kernel_rfl) (sm ?_)
      have hn : 0 < f.name.length := hw1.2.resolve_left (fun h => h h1)
      refine ⟨by omega, by omega, mt, [], ?_⟩
      have e1 : IntKind.i64.wrap ((f.name.getD 0 0).toNat : Int) = (f.name.getD 0 0).toNat := by
        have : (f.name.getD 0 0).toNat < 256 := (f.name.getD 0 0).toNat_lt
        show IntKind.i64.wrap ((f.name.getD 0 0).toNat : Int) = _
        exact w64
      rw [e1]
      simp only [litsH, litV, if_pos h1]; rfl
    · have h1 := of_decide_eq_false h1
      exact ⟨mt, [], by simp only [litsH, litV, if_neg h1]; rfl⟩
  · refine pwp_join2 (l := litsH h many f f.kids.length) [(4, .ptr (h.length + 1) 0), (5, .ptr (h.length + 2) 0)] True ?_ (vcC_sound _ _ _ _ (sm ?_)) fun _ => ?_
    · cases hk : f.kids.length with
      | zero => rw [litsH0]; exact hd1 hb
      | succ n => rw [litsHs]; exact hd1 hb
    · refine pwp_loop (κ := Nat) (fun i => [(1, .d (.int .i64 many)), (2, .ptr h.length 0), (4, .ptr (h.length + 1) 0), (5, .ptr (h.length + 2) 0), (6, .d (.int .i64 i))]) (fun i => h ++ litsH h many f i) (fun i => i ≤ f.kids.length) (fun i => f.kids.length - i)
        (fun k hk => ?_) ⟨0, [], by omega, mt, (List.append_nil _).symm⟩ fun i hi => ?_
      · cases k with
        | zero => rw [litsH0]; exact hd1 hb
        | succ n => rw [litsHs]; exact hd1 hb
      cases i with
      | zero =>
        simp only [litsH0]
        refine vcC_sound _ _ _ _ (sm ?_)
        refine fun hn => ⟨fun h1 => ?_, fun h1 => ?_⟩
        · have hlt : 0 < f.kids.length := by have := of_decide_eq_true h1; omega
          refine pwp_drawn [.q, .r 0 0, .q, .r 0 1, .q, .r 0 1, .r 0 1, .q, .q, .q, .e, .q, .e] hm (by kernel_rfl) (sm ?_)
          simp only [getD_map_lt (g := dF) hlt]
          refine sm ?_
          refine ⟨by omega, exQ.use (ih _ (getD_memF hlt) (List.all_eq_true.1 hw2 _ (getD_memF hlt))) (sm ?_)⟩
          rw [wsucc hlt (by omega)]
          refine ⟨⟨fun i hi => absurd hi (by omega), fun i hi => ?_⟩, ?_, 1, [], by omega, by omega, mt, ?_⟩
          · have : i = 0 := by omega
            subst this; rfl
          · simp only [getD_map_lt (g := dF) hlt, dF_eq]
            exact ⟨⟨by omega, by omega, rfl⟩, trivial⟩
          · rw [litsHs, rowOf_succ (litsF many) hlt]; rfl
        · have hge : f.kids.length = 0 := by have := of_decide_eq_false h1; omega
          exact ⟨mt, [], by rw [hge, litsH0]; rfl⟩
      | succ n =>
        simp only [litsHs]
        refine vcC_sound _ _ _ _ (sm ?_)
        refine fun hn => ⟨fun h1 => ?_, fun h1 => ?_⟩
        · have hlt : n + 1 < f.kids.length := by have := of_decide_eq_true h1; omega
          refine pwp_drawn [.q, .r 0 0, .q, .r 0 1, .q, .r 0 1, .r 0 1, .q, .q, .q, .e, .q, .e] hm (by kernel_rfl) (sm ?_)
          simp only [getD_map_lt (g := dF) hlt]
          refine sm ?_
          refine ⟨by omega, exQ.use (ih _ (getD_memF hlt) (List.all_eq_true.1 hw2 _ (getD_memF hlt))) (sm ?_)⟩
          have hr : (rowOf (litsF many) (f.kids.take (n + 1))).length = n + 1 := by rw [rowOf_len, List.length_take]; omega
          simp only [hr]
          rw [wsucc hlt (by omega)]
          refine ⟨⟨trivial, fun i hi => ?_, by omega⟩, ?_, n + 1 + 1, [], by omega, by omega, mt, ?_⟩
          · have : i = 0 := by omega
            subst this; rfl
          · simp only [getD_map_lt (g := dF) hlt, dF_eq]
            exact ⟨⟨by omega, by omega, rfl⟩, trivial⟩
          · rw [litsHs, rowOf_succ (litsF many) hlt]; rfl
        · have hge : f.kids.length = n + 1 := by have := of_decide_eq_false h1; omega
          exact ⟨mt, [], by rw [hge, litsHs]; rfl⟩
    · cases hk : f.kids.length with
      | zero =>
        have hnil : f.kids = [] := List.eq_nil_of_length_eq_zero hk
        rw [litsH0]
        refine vcC_sound _ _ _ _ (sm ?_)
        refine leaf ?_
        rw [litsF_eq, hnil]
        simp only [fg_agg, fg_int, fg_str, fg_sl, List.map_cons, List.map_nil]; rfl
      | succ n =>
        rw [litsHs]
        refine pwp_seal (h.length + 3) (E := 26) (sz := 4) (rowD (litsF many) f.kids) ?_ ?_
        · rw [hget_own, ← rowOf_d, List.take_of_length_le (by omega)]; rfl
        · rw [hset_own]
          refine vcC_sound _ _ _ _ (sm ?_)
          simp only [rowD_len, hk]
          refine sm ?_
          refine leaf ?_
          rw [litsF_eq, rowD_eq]
          simp only [fg_agg, fg_int, fg_str, fg_sl, List.map_cons, List.map_nil, fg_map_dF]
          rfl
end Go.Proofs.YtgpbkphiipjjoaaGreatDoor.Pv
end

/- Formulas by few kinds: ref10.base. -/
section
namespace Go.Proofs.YtgpbkphiipjjoaaGreatDoor.Pv
open Go
set_option maxRecDepth 100000
set_option maxHeartbeats 4000000
set_option linter.unusedSimpArgs false

def nF (f : Fm) : Fm := .mk 4 [] 0 [f]
def oF (k : Int) (f : Fm) : Fm := .mk k [] 0 [f]
def tF (k : Int) (f g : Fm) : Fm := .mk k [] 0 [f, g]
def yesF : Fm := .mk 2 [] 0 []
def baseK (f a b : Fm) : Fm :=
  if f.kind = 1 then nF yesF
  else if f.kind = 2 ∨ f.kind = 3 then f
  else if f.kind = 4 ∨ f.kind = 9 ∨ f.kind = 13 then oF f.kind a
  else if f.kind = 5 ∨ f.kind = 15 then tF f.kind a b
  else if f.kind = 6 then nF (tF 5 (nF a) (nF b))
  else if f.kind = 7 then nF (tF 5 a (nF b))
  else if f.kind = 8 then tF 5 (nF (tF 5 a (nF b))) (nF (tF 5 b (nF a)))
  else if f.kind = 10 then nF (oF 9 (nF a))
  else if f.kind = 11 then tF 15 yesF a
  else if f.kind = 12 then nF (oF 13 (nF a))
  else if f.kind = 14 then nF (tF 15 yesF (nF a))
  else if f.kind = 16 then tF 5 (nF (tF 15 (nF b) (tF 5 (nF a) (nF b)))) (nF (oF 13 (nF b)))
  else if f.kind = 17 then nF (tF 5 (nF (oF 13 b)) (nF (tF 15 b (tF 5 a b))))
  else nF (tF 15 (nF a) (nF b))
mutual
def baseF : Fm → Fm
  | .mk k n l ks => baseK (.mk k n l ks) ((baseFL ks).getD 0 default) ((baseFL ks).getD 1 default)
def baseFL : List Fm → List Fm
  | [] => []
  | x :: r => baseF x :: baseFL r
end
theorem baseFL_map : ∀ l, baseFL l = l.map baseF
  | [] => rfl
  | x :: r => by rw [baseFL, List.map_cons, baseFL_map r]
theorem baseF_eq (f : Fm) : baseF f = baseK f ((f.kids.map baseF).getD 0 default) ((f.kids.map baseF).getD 1 default) := by cases f; rw [baseF, baseFL_map]; rfl

theorem getD_map_f {l : List Fm} {i : Nat} (h : i < l.length) : (l.map baseF).getD i default = baseF (l.getD i default) := by
  simp [List.getD_eq_getElem?_getD, List.getElem?_eq_getElem h]

/-- each kind has as many parts as it has -/
def okB (f : Fm) : Bool := decide (kidsF f.kind = f.kids.length)

def baseH (h : List PObj) (f : Fm) : Nat → List PObj
  | 0 => [.cells [.d (.int .i64 f.kind), .d (.str f.name), .d (.int .i64 f.lit), .d (.sl (f.kids.map dF) false)], .cells [.d (.int .i64 0), .d (.str []), .d (.int .i64 0), .d (.sl [] true)]]
  | n + 1 => [.cells [.d (.int .i64 f.kind), .d (.str f.name), .d (.int .i64 f.lit), .d (.sl (f.kids.map dF) false)], .cells [.d (.int .i64 0), .d (.str []), .d (.int .i64 0), .d (.sl [] true)],
      .row 26 4 (rowOf baseF (f.kids.take (n + 1)))]
theorem baseH0 (h : List PObj) (f : Fm) : baseH h f 0 = [.cells [.d (.int .i64 f.kind), .d (.str f.name), .d (.int .i64 f.lit), .d (.sl (f.kids.map dF) false)], .cells [.d (.int .i64 0), .d (.str []), .d (.int .i64 0), .d (.sl [] true)]] := rfl
theorem baseHs (h : List PObj) (f : Fm) (n : Nat) : baseH h f (n + 1) = [.cells [.d (.int .i64 f.kind), .d (.str f.name), .d (.int .i64 f.lit), .d (.sl (f.kids.map dF) false)], .cells [.d (.int .i64 0), .d (.str []), .d (.int .i64 0), .d (.sl [] true)],
      .row 26 4 (rowOf baseF (f.kids.take (n + 1)))] := rfl
def baseL (h : List PObj) : Nat → PV
  | 0 => .d (.sl [] true)
  | n + 1 => .row (h.length + 2) (n + 1)

theorem baseL0 (h : List PObj) : baseL h 0 = .d (.sl [] true) := rfl
theorem baseLs (h : List PObj) (n : Nat) : baseL h (n + 1) = .row (h.length + 2) (n + 1) := rfl

/-- the parts, as a list that turns no more -/
theorem base_seal {P : Program} {B : Array Obj} {h : List PObj} {f : Fm} {c : Code} {Q : PPost} {N : Nat} (hb : HB h)
    (k : PWp P B h.length c Q ⟨look [(1, .ptr h.length 0), (2, .ptr (h.length + 1) 0), (3, .d (.sl (rowD baseF f.kids) false))], N, []⟩ (h ++ baseH h f 0)) :
    PWp P B h.length c Q ⟨look [(1, .ptr h.length 0), (2, .ptr (h.length + 1) 0), (3, baseL h f.kids.length)], N, []⟩ (h ++ baseH h f f.kids.length) := by
  have hc : h.length ≤ (h ++ baseH h f 0).length ∧ HB (h ++ baseH h f 0) ∧ LB (h ++ baseH h f 0).length [(1, .ptr h.length 0), (2, .ptr (h.length + 1) 0), (3, .d (.sl (rowD baseF f.kids) false))] ∧ DB (h ++ baseH h f 0).length [] := by
    rw [baseH0]
    exact hd1 (a := ⟨look [], 0, []⟩) hb
  cases hk : f.kids.length with
  | zero =>
    have hnil : f.kids = [] := List.eq_nil_of_length_eq_zero hk
    rw [baseL0]
    refine pwp_fg ?_
    rw [show (h ++ baseH h f 0) = (h ++ baseH h f 0) ++ [] by simp]
    refine pwp_drop [(1, .ptr h.length 0), (2, .ptr (h.length + 1) 0), (3, .d (.sl (rowD baseF f.kids) false))] hc ?_ k
    simp only [mt_cons, mt_nil, look, hnil]
    exact ⟨rfl, rfl, rfl, trivial⟩
  | succ n =>
    rw [baseHs, baseLs]
    refine pwp_seal (h.length + 2) (E := 26) (sz := 4) (rowD baseF f.kids) ?_ ?_
    · rw [hget_own, ← rowOf_d, List.take_of_length_le (by omega)]; rfl
    · rw [hset_own]
      have e : h ++ [PObj.cells [.d (.int .i64 f.kind), .d (.str f.name), .d (.int .i64 f.lit), .d (.sl (f.kids.map dF) false)], .cells [.d (.int .i64 0), .d (.str []), .d (.int .i64 0), .d (.sl [] true)], .frz (rowD baseF f.kids)] = (h ++ baseH h f 0) ++ [.frz (rowD baseF f.kids)] := by rw [baseH0]; simp
      show PWp P B h.length c Q _ (h ++ [PObj.cells [.d (.int .i64 f.kind), .d (.str f.name), .d (.int .i64 f.lit), .d (.sl (f.kids.map dF) false)], .cells [.d (.int .i64 0), .d (.str []), .d (.int .i64 0), .d (.sl [] true)], .frz (rowD baseF f.kids)])
      rw [e]
      refine pwp_drop [(1, .ptr h.length 0), (2, .ptr (h.length + 1) 0), (3, .d (.sl (rowD baseF f.kids) false))] hc ?_ k
      simp only [List.set_cons_succ, List.set_cons_zero, mt_cons, mt_nil, rs_t, mk_t, look, rsvA_ptr, rsvA_row, rsv_row, hget_own, List.getElem?_cons_succ, List.getElem?_cons_zero, rowD_len, hk, Nat.reduceEqDiff, ↓reduceIte, and_true]

theorem rbase_ret (B : Array Obj) (hm : Tryz.prog.follows .mixedOrders = true) (f : Fm) : allF okB f = true → PRet Tryz.prog B 33 [.d (dFu f)] (dFu (baseF f)) := by
  induction f using Fm.ind with
  | _ f ih =>
  intro hw
  rw [allF_eq, Bool.and_eq_true] at hw
  obtain ⟨hw1, hw2⟩ := hw
  have hkk : kidsF f.kind = f.kids.length := of_decide_eq_true hw1
  have hk2 : f.kids.length ≤ 2 := by
    have : kidsF f.kind ≤ 2 := by unfold kidsF; repeat' split <;> omega
    omega
  refine pret_start Tryz.func33 Tryz.ntmps33 rfl (by decide) rfl (by simp) fun h hb => ?_
  refine pwp_seq (vcC_sound _ _ _ _ (sm ?_))
  refine pwp_seq (vcC_sound _ _ _ _ (sm ?_))
  refine pwp_join2 (l := baseH h f f.kids.length) [(1, .ptr h.length 0), (2, .ptr (h.length + 1) 0), (3, baseL h f.kids.length)] True ?_ (vcC_sound _ _ _ _ (sm ?_)) fun _ => ?_
  · cases f.kids.length with
    | zero => rw [baseH0, baseL0]; exact hd1 hb
    | succ n => rw [baseHs, baseLs]; exact hd1 hb
  · refine pwp_loop (κ := Nat) (fun i => [(1, .ptr h.length 0), (2, .ptr (h.length + 1) 0), (3, baseL h i), (4, .d (.int .i64 i))]) (fun i => h ++ baseH h f i) (fun i => i ≤ f.kids.length) (fun i => f.kids.length - i)
      (fun k hk => ?_) ⟨0, [], by omega, by rw [baseL0]; exact mt, (List.append_nil _).symm⟩ fun i hi => ?_
    · cases k with
      | zero => rw [baseH0, baseL0]; exact hd1 hb
      | succ n => rw [baseHs, baseLs]; exact hd1 hb
    cases i with
    | zero =>
      simp only [baseH0, baseL0]
      refine vcC_sound _ _ _ _ (sm ?_)
      refine fun hn => ⟨fun h1 => ?_, fun h1 => ?_⟩
      · have hlt : 0 < f.kids.length := by have := of_decide_eq_true h1; omega
        simp only [getD_map_lt (g := dF) hlt]
        refine sm ?_
        refine ⟨by omega, PRet.use (ih _ (getD_memF hlt) (List.all_eq_true.1 hw2 _ (getD_memF hlt))) (sm ?_)⟩
        rw [wsucc hlt (by omega)]
        refine ⟨⟨fun i hi => absurd hi (by omega), fun i hi => ?_⟩, 1, [], by omega, by omega, mt, ?_⟩
        · have : i = 0 := by omega
          subst this; rfl
        · rw [baseHs, rowOf_succ baseF hlt]; rfl
      · have hge : f.kids.length = 0 := by have := of_decide_eq_false h1; omega
        exact ⟨by rw [hge, baseL0]; exact mt, [], by rw [hge, baseH0]; rfl⟩
    | succ n =>
      simp only [baseHs, baseLs]
      refine vcC_sound _ _ _ _ (sm ?_)
      refine fun hn => ⟨fun h1 => ?_, fun h1 => ?_⟩
      · have hlt : n + 1 < f.kids.length := by have := of_decide_eq_true h1; omega
        simp only [getD_map_lt (g := dF) hlt]
        refine sm ?_
        refine ⟨by omega, PRet.use (ih _ (getD_memF hlt) (List.all_eq_true.1 hw2 _ (getD_memF hlt))) (sm ?_)⟩
        have hr : (rowOf baseF (f.kids.take (n + 1))).length = n + 1 := by rw [rowOf_len, List.length_take]; omega
        simp only [hr]
        rw [wsucc hlt (by omega)]
        refine ⟨⟨trivial, fun i hi => ?_, by omega⟩, n + 1 + 1, [], by omega, by omega, mt, ?_⟩
        · have : i = 0 := by omega
          subst this; rfl
        · rw [baseHs, rowOf_succ baseF hlt]; rfl
      · have hge : f.kids.length = n + 1 := by have := of_decide_eq_false h1; omega
        exact ⟨by rw [hge, baseLs]; exact mt, [], by rw [hge, baseHs]; rfl⟩
  · refine base_seal hb ?_
    rw [baseH0]
    have hc : f.kind = 1 ∨ f.kind = 2 ∨ f.kind = 3 ∨ f.kind = 4 ∨ f.kind = 5 ∨ f.kind = 6 ∨ f.kind = 7 ∨ f.kind = 8 ∨ f.kind = 9 ∨ f.kind = 10 ∨ f.kind = 11 ∨ f.kind = 12 ∨ f.kind = 13 ∨ f.kind = 14 ∨ f.kind = 15 ∨ f.kind = 16 ∨ f.kind = 17 ∨ f.kind = 18 := by
      have : 0 ≤ kidsF f.kind := by omega
      unfold kidsF at this
      split at this <;> omega
    rcases hc with hk | hk | hk | hk | hk | hk | hk | hk | hk | hk | hk | hk | hk | hk | hk | hk | hk | hk
    · -- kind 1
      simp only [hk]
      refine vcC_sound _ _ _ _ (sm ?_)
      refine PRet.use ((rnot_ret B yesF).fgargs (by simp only [List.map_cons, List.map_nil, fgd_d, fg_agg, fg_int, fg_str, fg_sl, List.map_map, fg_comp_dF, dF_eq]; rfl)) (sm ?_)
      have e : baseF f = (.mk 4 [] 0 [yesF]) := by
        rw [baseF_eq]; unfold baseK; simp only [hk]; rfl
      rw [e]
      exact leaf
    · -- kind 2
      simp only [hk]
      refine vcC_sound _ _ _ _ (sm ?_)
      refine leaf ?_
      rw [baseF_eq, baseK, if_neg (by omega), if_pos (by omega)]
      have := fg_dFu f
      rw [← hk]; exact this
    · -- kind 3
      simp only [hk]
      refine vcC_sound _ _ _ _ (sm ?_)
      refine leaf ?_
      rw [baseF_eq, baseK, if_neg (by omega), if_pos (by omega)]
      have := fg_dFu f
      rw [← hk]; exact this
    · -- kind 4
      have hl : f.kids.length = 1 := by
        rw [hk] at hkk
        have : kidsF 4 = 1 := by decide
        omega
      have g0 := rowD_getD baseF (l := f.kids) (i := 0) (by omega)
      simp only [hk]
      refine vcC_sound _ _ _ _ (sm ?_)
      refine pwp_drawn [.q, .r 0 0, .q, .r 0 0, .r 0 0, .q, .e] hm (by kernel_rfl) (sm ?_)
      simp only [rowD_len, hl, Int.toNat_zero, Int.toNat_one, g0]
      refine sm ?_
      refine exQ.use (rone_ret B 4 (baseF (f.kids.getD 0 default))) (sm ?_)
      have e : baseF f = (.mk 4 [] 0 [(baseF (f.kids.getD 0 default))]) := by
        rw [baseF_eq, getD_map_f (i := 0) (by omega)]; unfold baseK; simp only [hk]; rfl
      rw [e]
      exact leaf
    · -- kind 5
      have hl : f.kids.length = 2 := by
        rw [hk] at hkk
        have : kidsF 5 = 2 := by decide
        omega
      have g0 := rowD_getD baseF (l := f.kids) (i := 0) (by omega)
      have g1 := rowD_getD baseF (l := f.kids) (i := 1) (by omega)
      simp only [hk]
      refine vcC_sound _ _ _ _ (sm ?_)
      refine pwp_drawn [.q, .r 0 0, .q, .r 0 0, .r 0 0, .q, .r 0 0, .r 0 0, .q, .e] hm (by kernel_rfl) (sm ?_)
      simp only [rowD_len, hl, Int.toNat_zero, Int.toNat_one, g0, g1]
      refine sm ?_
      refine exQ.use (rtwo_ret B 5 (baseF (f.kids.getD 0 default)) (baseF (f.kids.getD 1 default))) (sm ?_)
      have e : baseF f = (.mk 5 [] 0 [(baseF (f.kids.getD 0 default)), (baseF (f.kids.getD 1 default))]) := by
        rw [baseF_eq, getD_map_f (i := 0) (by omega), getD_map_f (i := 1) (by omega)]; unfold baseK; simp only [hk]; rfl
      rw [e]
      exact leaf
    · -- kind 6
      have hl : f.kids.length = 2 := by
        rw [hk] at hkk
        have : kidsF 6 = 2 := by decide
        omega
      have g0 := rowD_getD baseF (l := f.kids) (i := 0) (by omega)
      have g1 := rowD_getD baseF (l := f.kids) (i := 1) (by omega)
      simp only [hk]
      refine vcC_sound _ _ _ _ (sm ?_)
      refine pwp_drawn [.q, .r 0 0, .r 0 0, .q, .q, .r 0 0, .r 0 0, .q, .q, .q, .e] hm (by kernel_rfl) (sm ?_)
      simp only [rowD_len, hl, Int.toNat_zero, Int.toNat_one, g0, g1]
      refine sm ?_
      refine exQ.use (rnot_ret B (baseF (f.kids.getD 0 default))) (sm ?_)
      first
        | (simp only [rowD_len, hl, Int.toNat_zero, Int.toNat_one, g0, g1]; refine sm ?_)
        | skip
      refine exQ.use (rnot_ret B (baseF (f.kids.getD 1 default))) (sm ?_)
      first
        | (simp only [rowD_len, hl, Int.toNat_zero, Int.toNat_one, g0, g1]; refine sm ?_)
        | skip
      refine exQ.use (rtwo_ret B 5 (.mk 4 [] 0 [(baseF (f.kids.getD 0 default))]) (.mk 4 [] 0 [(baseF (f.kids.getD 1 default))])) (sm ?_)
      first
        | (simp only [rowD_len, hl, Int.toNat_zero, Int.toNat_one, g0, g1]; refine sm ?_)
        | skip
      refine exQ.use (rnot_ret B (.mk 5 [] 0 [(.mk 4 [] 0 [(baseF (f.kids.getD 0 default))]), (.mk 4 [] 0 [(baseF (f.kids.getD 1 default))])])) (sm ?_)
      have e : baseF f = (.mk 4 [] 0 [(.mk 5 [] 0 [(.mk 4 [] 0 [(baseF (f.kids.getD 0 default))]), (.mk 4 [] 0 [(baseF (f.kids.getD 1 default))])])]) := by
        rw [baseF_eq, getD_map_f (i := 0) (by omega), getD_map_f (i := 1) (by omega)]; unfold baseK; simp only [hk]; rfl
      rw [e]
      exact leaf
    · -- kind 7
      have hl : f.kids.length = 2 := by
        rw [hk] at hkk
        have : kidsF 7 = 2 := by decide
        omega
      have g0 := rowD_getD baseF (l := f.kids) (i := 0) (by omega)
      have g1 := rowD_getD baseF (l := f.kids) (i := 1) (by omega)
      simp only [hk]
      refine vcC_sound _ _ _ _ (sm ?_)
      refine pwp_drawn [.q, .r 0 0, .r 0 0, .q, .r 0 0, .r 0 0, .q, .q, .q, .e] hm (by kernel_rfl) (sm ?_)
      simp only [rowD_len, hl, Int.toNat_zero, Int.toNat_one, g0, g1]
      refine sm ?_
      refine exQ.use (rnot_ret B (baseF (f.kids.getD 1 default))) (sm ?_)
      first
        | (simp only [rowD_len, hl, Int.toNat_zero, Int.toNat_one, g0, g1]; refine sm ?_)
        | skip
      refine exQ.use (rtwo_ret B 5 (baseF (f.kids.getD 0 default)) (.mk 4 [] 0 [(baseF (f.kids.getD 1 default))])) (sm ?_)
      first
        | (simp only [rowD_len, hl, Int.toNat_zero, Int.toNat_one, g0, g1]; refine sm ?_)
        | skip
      refine exQ.use (rnot_ret B (.mk 5 [] 0 [(baseF (f.kids.getD 0 default)), (.mk 4 [] 0 [(baseF (f.kids.getD 1 default))])])) (sm ?_)
      have e : baseF f = (.mk 4 [] 0 [(.mk 5 [] 0 [(baseF (f.kids.getD 0 default)), (.mk 4 [] 0 [(baseF (f.kids.getD 1 default))])])]) := by
        rw [baseF_eq, getD_map_f (i := 0) (by omega), getD_map_f (i := 1) (by omega)]; unfold baseK; simp only [hk]; rfl
      rw [e]
      exact leaf
    · -- kind 8
      have hl : f.kids.length = 2 := by
        rw [hk] at hkk
        have : kidsF 8 = 2 := by decide
        omega
      have g0 := rowD_getD baseF (l := f.kids) (i := 0) (by omega)
      have g1 := rowD_getD baseF (l := f.kids) (i := 1) (by omega)
      simp only [hk]
      refine vcC_sound _ _ _ _ (sm ?_)
      refine pwp_drawn [.q, .r 0 0, .r 0 0, .q, .r 0 0, .r 0 0, .q, .q, .q, .q, .r 0 0, .r 0 0, .q, .r 0 0, .r 0 0, .q, .q, .q, .q, .e] hm (by kernel_rfl) (sm ?_)
      simp only [rowD_len, hl, Int.toNat_zero, Int.toNat_one, g0, g1]
      refine sm ?_
      refine exQ.use (rnot_ret B (baseF (f.kids.getD 1 default))) (sm ?_)
      first
        | (simp only [rowD_len, hl, Int.toNat_zero, Int.toNat_one, g0, g1]; refine sm ?_)
        | skip
      refine exQ.use (rtwo_ret B 5 (baseF (f.kids.getD 0 default)) (.mk 4 [] 0 [(baseF (f.kids.getD 1 default))])) (sm ?_)
      first
        | (simp only [rowD_len, hl, Int.toNat_zero, Int.toNat_one, g0, g1]; refine sm ?_)
        | skip
      refine exQ.use (rnot_ret B (.mk 5 [] 0 [(baseF (f.kids.getD 0 default)), (.mk 4 [] 0 [(baseF (f.kids.getD 1 default))])])) (sm ?_)
      first
        | (simp only [rowD_len, hl, Int.toNat_zero, Int.toNat_one, g0, g1]; refine sm ?_)
        | skip
      refine exQ.use (rnot_ret B (baseF (f.kids.getD 0 default))) (sm ?_)
      first
        | (simp only [rowD_len, hl, Int.toNat_zero, Int.toNat_one, g0, g1]; refine sm ?_)
        | skip
      refine exQ.use (rtwo_ret B 5 (baseF (f.kids.getD 1 default)) (.mk 4 [] 0 [(baseF (f.kids.getD 0 default))])) (sm ?_)
      first
        | (simp only [rowD_len, hl, Int.toNat_zero, Int.toNat_one, g0, g1]; refine sm ?_)
        | skip
      refine exQ.use (rnot_ret B (.mk 5 [] 0 [(baseF (f.kids.getD 1 default)), (.mk 4 [] 0 [(baseF (f.kids.getD 0 default))])])) (sm ?_)
      first
        | (simp only [rowD_len, hl, Int.toNat_zero, Int.toNat_one, g0, g1]; refine sm ?_)
        | skip
      refine exQ.use (rtwo_ret B 5 (.mk 4 [] 0 [(.mk 5 [] 0 [(baseF (f.kids.getD 0 default)), (.mk 4 [] 0 [(baseF (f.kids.getD 1 default))])])]) (.mk 4 [] 0 [(.mk 5 [] 0 [(baseF (f.kids.getD 1 default)), (.mk 4 [] 0 [(baseF (f.kids.getD 0 default))])])])) (sm ?_)
      have e : baseF f = (.mk 5 [] 0 [(.mk 4 [] 0 [(.mk 5 [] 0 [(baseF (f.kids.getD 0 default)), (.mk 4 [] 0 [(baseF (f.kids.getD 1 default))])])]), (.mk 4 [] 0 [(.mk 5 [] 0 [(baseF (f.kids.getD 1 default)), (.mk 4 [] 0 [(baseF (f.kids.getD 0 default))])])])]) := by
        rw [baseF_eq, getD_map_f (i := 0) (by omega), getD_map_f (i := 1) (by omega)]; unfold baseK; simp only [hk]; rfl
      rw [e]
      exact leaf
    · -- kind 9
      have hl : f.kids.length = 1 := by
        rw [hk] at hkk
        have : kidsF 9 = 1 := by decide
        omega
      have g0 := rowD_getD baseF (l := f.kids) (i := 0) (by omega)
      simp only [hk]
      refine vcC_sound _ _ _ _ (sm ?_)
      refine pwp_drawn [.q, .r 0 0, .q, .r 0 0, .r 0 0, .q, .e] hm (by kernel_rfl) (sm ?_)
      simp only [rowD_len, hl, Int.toNat_zero, Int.toNat_one, g0]
      refine sm ?_
      refine exQ.use (rone_ret B 9 (baseF (f.kids.getD 0 default))) (sm ?_)
      have e : baseF f = (.mk 9 [] 0 [(baseF (f.kids.getD 0 default))]) := by
        rw [baseF_eq, getD_map_f (i := 0) (by omega)]; unfold baseK; simp only [hk]; rfl
      rw [e]
      exact leaf
    · -- kind 10
      have hl : f.kids.length = 1 := by
        rw [hk] at hkk
        have : kidsF 10 = 1 := by decide
        omega
      have g0 := rowD_getD baseF (l := f.kids) (i := 0) (by omega)
      simp only [hk]
      refine vcC_sound _ _ _ _ (sm ?_)
      simp only [rowD_len, hl, Int.toNat_zero, Int.toNat_one, g0]
      refine sm ?_
      refine PRet.use (rnot_ret B (baseF (f.kids.getD 0 default))) (sm ?_)
      first
        | (simp only [rowD_len, hl, Int.toNat_zero, Int.toNat_one, g0]; refine sm ?_)
        | skip
      refine PRet.use (rone_ret B 9 (.mk 4 [] 0 [(baseF (f.kids.getD 0 default))])) (sm ?_)
      first
        | (simp only [rowD_len, hl, Int.toNat_zero, Int.toNat_one, g0]; refine sm ?_)
        | skip
      refine PRet.use (rnot_ret B (.mk 9 [] 0 [(.mk 4 [] 0 [(baseF (f.kids.getD 0 default))])])) (sm ?_)
      have e : baseF f = (.mk 4 [] 0 [(.mk 9 [] 0 [(.mk 4 [] 0 [(baseF (f.kids.getD 0 default))])])]) := by
        rw [baseF_eq, getD_map_f (i := 0) (by omega)]; unfold baseK; simp only [hk]; rfl
      rw [e]
      exact leaf
    · -- kind 11
      have hl : f.kids.length = 1 := by
        rw [hk] at hkk
        have : kidsF 11 = 1 := by decide
        omega
      have g0 := rowD_getD baseF (l := f.kids) (i := 0) (by omega)
      simp only [hk]
      refine vcC_sound _ _ _ _ (sm ?_)
      refine pwp_drawn [.r 0 0, .q, .r 0 0, .r 0 0, .q, .e] hm (by kernel_rfl) (sm ?_)
      simp only [rowD_len, hl, Int.toNat_zero, Int.toNat_one, g0]
      refine sm ?_
      refine exQ.use ((rtwo_ret B 15 yesF (baseF (f.kids.getD 0 default))).fgargs (by simp only [List.map_cons, List.map_nil, fgd_d, fg_agg, fg_int, fg_str, fg_sl, List.map_map, fg_comp_dF, dF_eq]; rfl)) (sm ?_)
      have e : baseF f = (.mk 15 [] 0 [yesF, (baseF (f.kids.getD 0 default))]) := by
        rw [baseF_eq, getD_map_f (i := 0) (by omega)]; unfold baseK; simp only [hk]; rfl
      rw [e]
      exact leaf
    · -- kind 12
      have hl : f.kids.length = 1 := by
        rw [hk] at hkk
        have : kidsF 12 = 1 := by decide
        omega
      have g0 := rowD_getD baseF (l := f.kids) (i := 0) (by omega)
      simp only [hk]
      refine vcC_sound _ _ _ _ (sm ?_)
      simp only [rowD_len, hl, Int.toNat_zero, Int.toNat_one, g0]
      refine sm ?_
      refine PRet.use (rnot_ret B (baseF (f.kids.getD 0 default))) (sm ?_)
      first
        | (simp only [rowD_len, hl, Int.toNat_zero, Int.toNat_one, g0]; refine sm ?_)
        | skip
      refine PRet.use (rone_ret B 13 (.mk 4 [] 0 [(baseF (f.kids.getD 0 default))])) (sm ?_)
      first
        | (simp only [rowD_len, hl, Int.toNat_zero, Int.toNat_one, g0]; refine sm ?_)
        | skip
      refine PRet.use (rnot_ret B (.mk 13 [] 0 [(.mk 4 [] 0 [(baseF (f.kids.getD 0 default))])])) (sm ?_)
      have e : baseF f = (.mk 4 [] 0 [(.mk 13 [] 0 [(.mk 4 [] 0 [(baseF (f.kids.getD 0 default))])])]) := by
        rw [baseF_eq, getD_map_f (i := 0) (by omega)]; unfold baseK; simp only [hk]; rfl
      rw [e]
      exact leaf
    · -- kind 13
      have hl : f.kids.length = 1 := by
        rw [hk] at hkk
        have : kidsF 13 = 1 := by decide
        omega
      have g0 := rowD_getD baseF (l := f.kids) (i := 0) (by omega)
      simp only [hk]
      refine vcC_sound _ _ _ _ (sm ?_)
      refine pwp_drawn [.q, .r 0 0, .q, .r 0 0, .r 0 0, .q, .e] hm (by kernel_rfl) (sm ?_)
      simp only [rowD_len, hl, Int.toNat_zero, Int.toNat_one, g0]
      refine sm ?_
      refine exQ.use (rone_ret B 13 (baseF (f.kids.getD 0 default))) (sm ?_)
      have e : baseF f = (.mk 13 [] 0 [(baseF (f.kids.getD 0 default))]) := by
        rw [baseF_eq, getD_map_f (i := 0) (by omega)]; unfold baseK; simp only [hk]; rfl
      rw [e]
      exact leaf
    · -- kind 14
      have hl : f.kids.length = 1 := by
        rw [hk] at hkk
        have : kidsF 14 = 1 := by decide
        omega
      have g0 := rowD_getD baseF (l := f.kids) (i := 0) (by omega)
      simp only [hk]
      refine vcC_sound _ _ _ _ (sm ?_)
      refine pwp_drawn [.r 0 0, .q, .r 0 0, .r 0 0, .q, .q, .q, .e] hm (by kernel_rfl) (sm ?_)
      simp only [rowD_len, hl, Int.toNat_zero, Int.toNat_one, g0]
      refine sm ?_
      refine exQ.use (rnot_ret B (baseF (f.kids.getD 0 default))) (sm ?_)
      first
        | (simp only [rowD_len, hl, Int.toNat_zero, Int.toNat_one, g0]; refine sm ?_)
        | skip
      refine exQ.use ((rtwo_ret B 15 yesF (.mk 4 [] 0 [(baseF (f.kids.getD 0 default))])).fgargs (by simp only [List.map_cons, List.map_nil, fgd_d, fg_agg, fg_int, fg_str, fg_sl, List.map_map, fg_comp_dF, dF_eq]; rfl)) (sm ?_)
      first
        | (simp only [rowD_len, hl, Int.toNat_zero, Int.toNat_one, g0]; refine sm ?_)
        | skip
      refine exQ.use (rnot_ret B (.mk 15 [] 0 [yesF, (.mk 4 [] 0 [(baseF (f.kids.getD 0 default))])])) (sm ?_)
      have e : baseF f = (.mk 4 [] 0 [(.mk 15 [] 0 [yesF, (.mk 4 [] 0 [(baseF (f.kids.getD 0 default))])])]) := by
        rw [baseF_eq, getD_map_f (i := 0) (by omega)]; unfold baseK; simp only [hk]; rfl
      rw [e]
      exact leaf
    · -- kind 15
      have hl : f.kids.length = 2 := by
        rw [hk] at hkk
        have : kidsF 15 = 2 := by decide
        omega
      have g0 := rowD_getD baseF (l := f.kids) (i := 0) (by omega)
      have g1 := rowD_getD baseF (l := f.kids) (i := 1) (by omega)
      simp only [hk]
      refine vcC_sound _ _ _ _ (sm ?_)
      refine pwp_drawn [.q, .r 0 0, .q, .r 0 0, .r 0 0, .q, .r 0 0, .r 0 0, .q, .e] hm (by kernel_rfl) (sm ?_)
      simp only [rowD_len, hl, Int.toNat_zero, Int.toNat_one, g0, g1]
      refine sm ?_
      refine exQ.use (rtwo_ret B 15 (baseF (f.kids.getD 0 default)) (baseF (f.kids.getD 1 default))) (sm ?_)
      have e : baseF f = (.mk 15 [] 0 [(baseF (f.kids.getD 0 default)), (baseF (f.kids.getD 1 default))]) := by
        rw [baseF_eq, getD_map_f (i := 0) (by omega), getD_map_f (i := 1) (by omega)]; unfold baseK; simp only [hk]; rfl
      rw [e]
      exact leaf
    · -- kind 16
      have hl : f.kids.length = 2 := by
        rw [hk] at hkk
        have : kidsF 16 = 2 := by decide
        omega
      have g0 := rowD_getD baseF (l := f.kids) (i := 0) (by omega)
      have g1 := rowD_getD baseF (l := f.kids) (i := 1) (by omega)
      simp only [hk]
      refine vcC_sound _ _ _ _ (sm ?_)
      simp only [rowD_len, hl, Int.toNat_zero, Int.toNat_one, g0, g1]
      refine sm ?_
      refine PRet.use (rnot_ret B (baseF (f.kids.getD 1 default))) (sm ?_)
      first
        | (simp only [rowD_len, hl, Int.toNat_zero, Int.toNat_one, g0, g1]; refine sm ?_)
        | skip
      refine pwp_drawn [.r 0 1, .q, .r 0 1, .r 0 1, .q, .r 0 1, .q, .q, .e, .e] hm (by kernel_rfl) (sm ?_)
      first
        | (simp only [rowD_len, hl, Int.toNat_zero, Int.toNat_one, g0, g1]; refine sm ?_)
        | skip
      refine exQ.use (rnot_ret B (baseF (f.kids.getD 0 default))) (sm ?_)
      first
        | (simp only [rowD_len, hl, Int.toNat_zero, Int.toNat_one, g0, g1]; refine sm ?_)
        | skip
      refine exQ.use (rtwo_ret B 5 (.mk 4 [] 0 [(baseF (f.kids.getD 0 default))]) (.mk 4 [] 0 [(baseF (f.kids.getD 1 default))])) (sm ?_)
      first
        | (simp only [rowD_len, hl, Int.toNat_zero, Int.toNat_one, g0, g1]; refine sm ?_)
        | skip
      refine exQ.use (rtwo_ret B 15 (.mk 4 [] 0 [(baseF (f.kids.getD 1 default))]) (.mk 5 [] 0 [(.mk 4 [] 0 [(baseF (f.kids.getD 0 default))]), (.mk 4 [] 0 [(baseF (f.kids.getD 1 default))])])) (sm ?_)
      first
        | (simp only [rowD_len, hl, Int.toNat_zero, Int.toNat_one, g0, g1]; refine sm ?_)
        | skip
      refine pwp_drawn [.r 0 0, .q, .r 0 0, .q, .q, .q, .e] hm (by kernel_rfl) (sm ?_)
      refine exQ.use (rnot_ret B (.mk 15 [] 0 [(.mk 4 [] 0 [(baseF (f.kids.getD 1 default))]), (.mk 5 [] 0 [(.mk 4 [] 0 [(baseF (f.kids.getD 0 default))]), (.mk 4 [] 0 [(baseF (f.kids.getD 1 default))])])])) (sm ?_)
      first
        | (simp only [rowD_len, hl, Int.toNat_zero, Int.toNat_one, g0, g1]; refine sm ?_)
        | skip
      refine exQ.use (rone_ret B 13 (.mk 4 [] 0 [(baseF (f.kids.getD 1 default))])) (sm ?_)
      first
        | (simp only [rowD_len, hl, Int.toNat_zero, Int.toNat_one, g0, g1]; refine sm ?_)
        | skip
      refine exQ.use (rnot_ret B (.mk 13 [] 0 [(.mk 4 [] 0 [(baseF (f.kids.getD 1 default))])])) (sm ?_)
      first
        | (simp only [rowD_len, hl, Int.toNat_zero, Int.toNat_one, g0, g1]; refine sm ?_)
        | skip
      refine exQ.use (rtwo_ret B 5 (.mk 4 [] 0 [(.mk 15 [] 0 [(.mk 4 [] 0 [(baseF (f.kids.getD 1 default))]), (.mk 5 [] 0 [(.mk 4 [] 0 [(baseF (f.kids.getD 0 default))]), (.mk 4 [] 0 [(baseF (f.kids.getD 1 default))])])])]) (.mk 4 [] 0 [(.mk 13 [] 0 [(.mk 4 [] 0 [(baseF (f.kids.getD 1 default))])])])) (sm ?_)
      have e : baseF f = (.mk 5 [] 0 [(.mk 4 [] 0 [(.mk 15 [] 0 [(.mk 4 [] 0 [(baseF (f.kids.getD 1 default))]), (.mk 5 [] 0 [(.mk 4 [] 0 [(baseF (f.kids.getD 0 default))]), (.mk 4 [] 0 [(baseF (f.kids.getD 1 default))])])])]), (.mk 4 [] 0 [(.mk 13 [] 0 [(.mk 4 [] 0 [(baseF (f.kids.getD 1 default))])])])]) := by
        rw [baseF_eq, getD_map_f (i := 0) (by omega), getD_map_f (i := 1) (by omega)]; unfold baseK; simp only [hk]; rfl
      rw [e]
      exact leaf
    · -- kind 17
      have hl : f.kids.length = 2 := by
        rw [hk] at hkk
        have : kidsF 17 = 2 := by decide
        omega
      have g0 := rowD_getD baseF (l := f.kids) (i := 0) (by omega)
      have g1 := rowD_getD baseF (l := f.kids) (i := 1) (by omega)
      simp only [hk]
      refine vcC_sound _ _ _ _ (sm ?_)
      refine pwp_drawn [.q, .r 0 0, .r 0 0, .q, .q, .q, .r 0 0, .r 0 0, .q, .r 0 0, .r 0 0, .q, .r 0 0, .r 0 0, .q, .q, .q, .q, .q, .e] hm (by kernel_rfl) (sm ?_)
      simp only [rowD_len, hl, Int.toNat_zero, Int.toNat_one, g0, g1]
      refine sm ?_
      refine exQ.use (rone_ret B 13 (baseF (f.kids.getD 1 default))) (sm ?_)
      first
        | (simp only [rowD_len, hl, Int.toNat_zero, Int.toNat_one, g0, g1]; refine sm ?_)
        | skip
      refine exQ.use (rnot_ret B (.mk 13 [] 0 [(baseF (f.kids.getD 1 default))])) (sm ?_)
      first
        | (simp only [rowD_len, hl, Int.toNat_zero, Int.toNat_one, g0, g1]; refine sm ?_)
        | skip
      refine exQ.use (rtwo_ret B 5 (baseF (f.kids.getD 0 default)) (baseF (f.kids.getD 1 default))) (sm ?_)
      first
        | (simp only [rowD_len, hl, Int.toNat_zero, Int.toNat_one, g0, g1]; refine sm ?_)
        | skip
      refine exQ.use (rtwo_ret B 15 (baseF (f.kids.getD 1 default)) (.mk 5 [] 0 [(baseF (f.kids.getD 0 default)), (baseF (f.kids.getD 1 default))])) (sm ?_)
      first
        | (simp only [rowD_len, hl, Int.toNat_zero, Int.toNat_one, g0, g1]; refine sm ?_)
        | skip
      refine exQ.use (rnot_ret B (.mk 15 [] 0 [(baseF (f.kids.getD 1 default)), (.mk 5 [] 0 [(baseF (f.kids.getD 0 default)), (baseF (f.kids.getD 1 default))])])) (sm ?_)
      first
        | (simp only [rowD_len, hl, Int.toNat_zero, Int.toNat_one, g0, g1]; refine sm ?_)
        | skip
      refine exQ.use (rtwo_ret B 5 (.mk 4 [] 0 [(.mk 13 [] 0 [(baseF (f.kids.getD 1 default))])]) (.mk 4 [] 0 [(.mk 15 [] 0 [(baseF (f.kids.getD 1 default)), (.mk 5 [] 0 [(baseF (f.kids.getD 0 default)), (baseF (f.kids.getD 1 default))])])])) (sm ?_)
      first
        | (simp only [rowD_len, hl, Int.toNat_zero, Int.toNat_one, g0, g1]; refine sm ?_)
        | skip
      refine exQ.use (rnot_ret B (.mk 5 [] 0 [(.mk 4 [] 0 [(.mk 13 [] 0 [(baseF (f.kids.getD 1 default))])]), (.mk 4 [] 0 [(.mk 15 [] 0 [(baseF (f.kids.getD 1 default)), (.mk 5 [] 0 [(baseF (f.kids.getD 0 default)), (baseF (f.kids.getD 1 default))])])])])) (sm ?_)
      have e : baseF f = (.mk 4 [] 0 [(.mk 5 [] 0 [(.mk 4 [] 0 [(.mk 13 [] 0 [(baseF (f.kids.getD 1 default))])]), (.mk 4 [] 0 [(.mk 15 [] 0 [(baseF (f.kids.getD 1 default)), (.mk 5 [] 0 [(baseF (f.kids.getD 0 default)), (baseF (f.kids.getD 1 default))])])])])]) := by
        rw [baseF_eq, getD_map_f (i := 0) (by omega), getD_map_f (i := 1) (by omega)]; unfold baseK; simp only [hk]; rfl
      rw [e]
      exact leaf
    · -- kind 18
      have hl : f.kids.length = 2 := by
        rw [hk] at hkk
        have : kidsF 18 = 2 := by decide
        omega
      have g0 := rowD_getD baseF (l := f.kids) (i := 0) (by omega)
      have g1 := rowD_getD baseF (l := f.kids) (i := 1) (by omega)
      simp only [hk]
      refine vcC_sound _ _ _ _ (sm ?_)
      refine pwp_drawn [.q, .r 0 0, .r 0 0, .q, .q, .r 0 0, .r 0 0, .q, .q, .q, .e] hm (by kernel_rfl) (sm ?_)
      simp only [rowD_len, hl, Int.toNat_zero, Int.toNat_one, g0, g1]
      refine sm ?_
      refine exQ.use (rnot_ret B (baseF (f.kids.getD 0 default))) (sm ?_)
      first
        | (simp only [rowD_len, hl, Int.toNat_zero, Int.toNat_one, g0, g1]; refine sm ?_)
        | skip
      refine exQ.use (rnot_ret B (baseF (f.kids.getD 1 default))) (sm ?_)
      first
        | (simp only [rowD_len, hl, Int.toNat_zero, Int.toNat_one, g0, g1]; refine sm ?_)
        | skip
      refine exQ.use (rtwo_ret B 15 (.mk 4 [] 0 [(baseF (f.kids.getD 0 default))]) (.mk 4 [] 0 [(baseF (f.kids.getD 1 default))])) (sm ?_)
      first
        | (simp only [rowD_len, hl, Int.toNat_zero, Int.toNat_one, g0, g1]; refine sm ?_)
        | skip
      refine exQ.use (rnot_ret B (.mk 15 [] 0 [(.mk 4 [] 0 [(baseF (f.kids.getD 0 default))]), (.mk 4 [] 0 [(baseF (f.kids.getD 1 default))])])) (sm ?_)
      have e : baseF f = (.mk 4 [] 0 [(.mk 15 [] 0 [(.mk 4 [] 0 [(baseF (f.kids.getD 0 default))]), (.mk 4 [] 0 [(baseF (f.kids.getD 1 default))])])]) := by
        rw [baseF_eq, getD_map_f (i := 0) (by omega), getD_map_f (i := 1) (by omega)]; unfold baseK; simp only [hk]; rfl
      rw [e]
      exact leaf
end Go.Proofs.YtgpbkphiipjjoaaGreatDoor.Pv
end

/- The rules of base that capture nothing. -/
section
namespace Go.Proofs.YtgpbkphiipjjoaaGreatDoor.Pv
open Go
set_option maxRecDepth 100000
set_option maxHeartbeats 4000000
set_option linter.unusedSimpArgs false

theorem of1_ret (B : Array Obj) (k : Int) (f : Fm) : PRet Tryz.prog B 56 [.d (.int .i64 k), .d (.sl [dFu f] true)] (dFu (.mk k [] 0 [f])) :=
  (of_ret B k [dFu f] true).cast (by simp only [List.map_cons, List.map_nil, fg_dFu, dFu, Fm.kind_mk, Fm.name_mk, Fm.lit_mk, Fm.kids_mk, dF_eq])
theorem of2_ret (B : Array Obj) (k : Int) (f g : Fm) : PRet Tryz.prog B 56 [.d (.int .i64 k), .d (.sl [dFu f, dFu g] true)] (dFu (.mk k [] 0 [f, g])) :=
  (of_ret B k [dFu f, dFu g] true).cast (by simp only [List.map_cons, List.map_nil, fg_dFu, dFu, Fm.kind_mk, Fm.name_mk, Fm.lit_mk, Fm.kids_mk, dF_eq])
theorem until_ret (B : Array Obj) (f g : Fm) : PRet Tryz.prog B 57 [.d (dFu f), .d (dFu g)] (dFu (.mk 15 [] 0 [f, g])) := by
  refine pret_start Tryz.func57 Tryz.ntmps57 rfl (by decide) rfl (by simp) fun h hb => ?_
  refine vcC_sound _ _ _ _ (sm ?_)
  refine PRet.use (of_ret B 15 [dFu f, dFu g] true) (sm ?_)
  exact leaf
theorem always_ret (B : Array Obj) (f : Fm) : PRet Tryz.prog B 58 [.d (dFu f)] (dFu (.mk 13 [] 0 [f])) := by
  refine pret_start Tryz.func58 Tryz.ntmps58 rfl (by decide) rfl (by simp) fun h hb => ?_
  refine vcC_sound _ _ _ _ (sm ?_)
  refine PRet.use (of_ret B 13 [dFu f] true) (sm ?_)
  exact leaf

theorem rOr (B : Array Obj) (hm : Tryz.prog.follows .mixedOrders = true) (l : List Fm) (cl : Bool) (hl : l.length = 2) : PRet Tryz.prog B 61 [.d (.sl (l.map dF) cl)] (dFu (.mk 4 [] 0 [(.mk 5 [] 0 [(.mk 4 [] 0 [(l.getD 0 default)]), .mk 4 [] 0 [(l.getD 1 default)]])])) := by
  have g0 := getD_map_lt (g := dF) (l := l) (i := 0) (by omega)
  have g1 := getD_map_lt (g := dF) (l := l) (i := 1) (by omega)
  refine pret_start Tryz.func61 Tryz.ntmps61 rfl (by decide) rfl (by simp) fun h hb => ?_
  refine vcC_sound _ _ _ _ (sm ?_)
  refine pwp_drawn [.q, .r 0 0, .r 0 0, .q, .q, .r 0 0, .r 0 0, .q, .q, .e] hm (by kernel_rfl) (sm ?_)
  first
    | (simp only [List.length_map, hl, Int.toNat_zero, Int.toNat_one, g0, g1]; refine sm ?_)
    | skip
  refine exQ.use (not_ret B (l.getD 0 default)) (sm ?_)
  first
    | (simp only [List.length_map, hl, Int.toNat_zero, Int.toNat_one, g0, g1]; refine sm ?_)
    | skip
  refine exQ.use (but_ret B hm (.mk 4 [] 0 [(l.getD 0 default)]) (l.getD 1 default)) (sm ?_)
  first
    | (simp only [List.length_map, hl, Int.toNat_zero, Int.toNat_one, g0, g1]; refine sm ?_)
    | skip
  refine exQ.use (not_ret B (.mk 5 [] 0 [(.mk 4 [] 0 [(l.getD 0 default)]), .mk 4 [] 0 [(l.getD 1 default)]])) (sm ?_)
  first
    | (simp only [List.length_map, hl, Int.toNat_zero, Int.toNat_one, g0, g1]; refine sm ?_)
    | skip
  exact leaf

theorem rImply (B : Array Obj) (hm : Tryz.prog.follows .mixedOrders = true) (l : List Fm) (cl : Bool) (hl : l.length = 2) : PRet Tryz.prog B 63 [.d (.sl (l.map dF) cl)] (dFu (.mk 4 [] 0 [(.mk 5 [] 0 [(l.getD 0 default), .mk 4 [] 0 [(l.getD 1 default)]])])) := by
  have g0 := getD_map_lt (g := dF) (l := l) (i := 0) (by omega)
  have g1 := getD_map_lt (g := dF) (l := l) (i := 1) (by omega)
  refine pret_start Tryz.func63 Tryz.ntmps63 rfl (by decide) rfl (by simp) fun h hb => ?_
  refine vcC_sound _ _ _ _ (sm ?_)
  refine pwp_drawn [.q, .r 0 0, .r 0 0, .q, .r 0 0, .r 0 0, .q, .q, .e] hm (by kernel_rfl) (sm ?_)
  first
    | (simp only [List.length_map, hl, Int.toNat_zero, Int.toNat_one, g0, g1]; refine sm ?_)
    | skip
  refine exQ.use (but_ret B hm (l.getD 0 default) (l.getD 1 default)) (sm ?_)
  first
    | (simp only [List.length_map, hl, Int.toNat_zero, Int.toNat_one, g0, g1]; refine sm ?_)
    | skip
  refine exQ.use (not_ret B (.mk 5 [] 0 [(l.getD 0 default), .mk 4 [] 0 [(l.getD 1 default)]])) (sm ?_)
  first
    | (simp only [List.length_map, hl, Int.toNat_zero, Int.toNat_one, g0, g1]; refine sm ?_)
    | skip
  exact leaf

theorem rSame (B : Array Obj) (hm : Tryz.prog.follows .mixedOrders = true) (l : List Fm) (cl : Bool) (hl : l.length = 2) : PRet Tryz.prog B 64 [.d (.sl (l.map dF) cl)] (dFu (.mk 5 [] 0 [(.mk 4 [] 0 [(.mk 5 [] 0 [(l.getD 0 default), .mk 4 [] 0 [(l.getD 1 default)]])]), (.mk 4 [] 0 [(.mk 5 [] 0 [(l.getD 1 default), .mk 4 [] 0 [(l.getD 0 default)]])])])) := by
  have g0 := getD_map_lt (g := dF) (l := l) (i := 0) (by omega)
  have g1 := getD_map_lt (g := dF) (l := l) (i := 1) (by omega)
  refine pret_start Tryz.func64 Tryz.ntmps64 rfl (by decide) rfl (by simp) fun h hb => ?_
  refine vcC_sound _ _ _ _ (sm ?_)
  refine pwp_drawn [.q, .r 0 0, .r 0 0, .q, .r 0 0, .r 0 0, .q, .q, .q, .r 0 0, .r 0 0, .q, .r 0 0, .r 0 0, .q, .q, .q, .q, .e] hm (by kernel_rfl) (sm ?_)
  first
    | (simp only [List.length_map, hl, Int.toNat_zero, Int.toNat_one, g0, g1]; refine sm ?_)
    | skip
  refine exQ.use (but_ret B hm (l.getD 0 default) (l.getD 1 default)) (sm ?_)
  first
    | (simp only [List.length_map, hl, Int.toNat_zero, Int.toNat_one, g0, g1]; refine sm ?_)
    | skip
  refine exQ.use (not_ret B (.mk 5 [] 0 [(l.getD 0 default), .mk 4 [] 0 [(l.getD 1 default)]])) (sm ?_)
  first
    | (simp only [List.length_map, hl, Int.toNat_zero, Int.toNat_one, g0, g1]; refine sm ?_)
    | skip
  refine exQ.use (but_ret B hm (l.getD 1 default) (l.getD 0 default)) (sm ?_)
  first
    | (simp only [List.length_map, hl, Int.toNat_zero, Int.toNat_one, g0, g1]; refine sm ?_)
    | skip
  refine exQ.use (not_ret B (.mk 5 [] 0 [(l.getD 1 default), .mk 4 [] 0 [(l.getD 0 default)]])) (sm ?_)
  first
    | (simp only [List.length_map, hl, Int.toNat_zero, Int.toNat_one, g0, g1]; refine sm ?_)
    | skip
  refine exQ.use (of2_ret B 5 (.mk 4 [] 0 [(.mk 5 [] 0 [(l.getD 0 default), .mk 4 [] 0 [(l.getD 1 default)]])]) (.mk 4 [] 0 [(.mk 5 [] 0 [(l.getD 1 default), .mk 4 [] 0 [(l.getD 0 default)]])])) (sm ?_)
  first
    | (simp only [List.length_map, hl, Int.toNat_zero, Int.toNat_one, g0, g1]; refine sm ?_)
    | skip
  exact leaf

theorem rAX (B : Array Obj) (hm : Tryz.prog.follows .mixedOrders = true) (l : List Fm) (cl : Bool) (hl : l.length = 1) : PRet Tryz.prog B 65 [.d (.sl (l.map dF) cl)] (dFu (.mk 4 [] 0 [(.mk 9 [] 0 [(.mk 4 [] 0 [(l.getD 0 default)])])])) := by
  have g0 := getD_map_lt (g := dF) (l := l) (i := 0) (by omega)
  refine pret_start Tryz.func65 Tryz.ntmps65 rfl (by decide) rfl (by simp) fun h hb => ?_
  refine vcC_sound _ _ _ _ (sm ?_)
  first
    | (simp only [List.length_map, hl, Int.toNat_zero, Int.toNat_one, g0]; refine sm ?_)
    | skip
  refine PRet.use (not_ret B (l.getD 0 default)) (sm ?_)
  first
    | (simp only [List.length_map, hl, Int.toNat_zero, Int.toNat_one, g0]; refine sm ?_)
    | skip
  refine PRet.use (of1_ret B 9 (.mk 4 [] 0 [(l.getD 0 default)])) (sm ?_)
  first
    | (simp only [List.length_map, hl, Int.toNat_zero, Int.toNat_one, g0]; refine sm ?_)
    | skip
  refine PRet.use (not_ret B (.mk 9 [] 0 [(.mk 4 [] 0 [(l.getD 0 default)])])) (sm ?_)
  first
    | (simp only [List.length_map, hl, Int.toNat_zero, Int.toNat_one, g0]; refine sm ?_)
    | skip
  exact leaf
end Go.Proofs.YtgpbkphiipjjoaaGreatDoor.Pv
end

/- The rules of base that capture cells. -/
section
namespace Go.Proofs.YtgpbkphiipjjoaaGreatDoor.Pv
open Go
set_option maxRecDepth 100000
set_option maxHeartbeats 4000000
set_option linter.unusedSimpArgs false

/-- the captured cells -/
def yesC : PObj := .cells [.d (.int .i64 2), .d (.str []), .d (.int .i64 0), .d (.sl [] true)]
def untilC : PObj := .cells [.d (.fn (.func 57) [] [])]
def alwaysC : PObj := .cells [.d (.fn (.func 58) [] [])]
theorem yes_args : (dFu yesF) = .agg [.int .i64 2, .str [], .int .i64 0, .sl [] false] := rfl

theorem rFalse (B : Array Obj) (hm : Tryz.prog.follows .mixedOrders = true) (l : List Fm) (cl : Bool) (h : List PObj) (i0 : Nat) (hi0 : h[i0]? = some yesC) : PCalls Tryz.prog B 59 [.d (.sl (l.map dF) cl), .ptr i0 0] h fun r h' => r = .ret (.d (dFu (.mk 4 [] 0 [yesF]))) ∧ h' = h := by
  refine rc_start Tryz.func59 Tryz.ntmps59 rfl (by decide) rfl (by simp) fun hb => ?_
  refine vcC_sound _ _ _ _ (sm ?_)
  repeat (simp only [hget_old hi0, yesC, untilC, alwaysC]; refine sm ?_)
  refine PRet.use ((not_ret B yesF).fgargs (by simp only [List.map_cons, List.map_nil, fgd_d, fg_agg, fg_int, fg_str, fg_sl, List.map_map, fg_comp_dF, dF_eq]; rfl)) (sm ?_)
  repeat (simp only [hget_old hi0, yesC, untilC, alwaysC]; refine sm ?_)
  exact leaf

theorem rEF (B : Array Obj) (hm : Tryz.prog.follows .mixedOrders = true) (l : List Fm) (cl : Bool) (hl : l.length = 1) (h : List PObj) (i0 i1 : Nat) (hi0 : h[i0]? = some untilC) (hi1 : h[i1]? = some yesC) : PCalls Tryz.prog B 66 [.d (.sl (l.map dF) cl), .ptr i0 0, .ptr i1 0] h fun r h' => r = .ret (.d (dFu (.mk 15 [] 0 [yesF, (l.getD 0 default)]))) ∧ h' = h := by
  have g0 := getD_map_lt (g := dF) (l := l) (i := 0) (by omega)
  refine rc_start Tryz.func66 Tryz.ntmps66 rfl (by decide) rfl (by simp) fun hb => ?_
  refine vcC_sound _ _ _ _ (sm ?_)
  refine pwp_drawn [.r 0 0, .r 0 0, .q, .r 0 0, .r 0 0, .q, .e] hm (by kernel_rfl) (sm ?_)
  repeat (simp only [hget_old hi0, hget_old hi1, yesC, untilC, alwaysC, List.length_map, hl, Int.toNat_zero, Int.toNat_one, g0]; refine sm ?_)
  refine exQ.use ((until_ret B yesF (l.getD 0 default)).fgargs (by simp only [List.map_cons, List.map_nil, fgd_d, fg_agg, fg_int, fg_str, fg_sl, List.map_map, fg_comp_dF, dF_eq]; rfl)) (sm ?_)
  repeat (simp only [hget_old hi0, hget_old hi1, yesC, untilC, alwaysC, List.length_map, hl, Int.toNat_zero, Int.toNat_one, g0]; refine sm ?_)
  exact leaf

theorem rAF (B : Array Obj) (hm : Tryz.prog.follows .mixedOrders = true) (l : List Fm) (cl : Bool) (hl : l.length = 1) (h : List PObj) (i0 : Nat) (hi0 : h[i0]? = some alwaysC) : PCalls Tryz.prog B 67 [.d (.sl (l.map dF) cl), .ptr i0 0] h fun r h' => r = .ret (.d (dFu (.mk 4 [] 0 [(.mk 13 [] 0 [(.mk 4 [] 0 [(l.getD 0 default)])])]))) ∧ h' = h := by
  have g0 := getD_map_lt (g := dF) (l := l) (i := 0) (by omega)
  refine rc_start Tryz.func67 Tryz.ntmps67 rfl (by decide) rfl (by simp) fun hb => ?_
  refine vcC_sound _ _ _ _ (sm ?_)
  refine pwp_drawn [.r 0 0, .q, .r 0 0, .r 0 0, .q, .q, .q, .e] hm (by kernel_rfl) (sm ?_)
  repeat (simp only [hget_old hi0, yesC, untilC, alwaysC, List.length_map, hl, Int.toNat_zero, Int.toNat_one, g0]; refine sm ?_)
  refine exQ.use (not_ret B (l.getD 0 default)) (sm ?_)
  repeat (simp only [hget_old hi0, yesC, untilC, alwaysC, List.length_map, hl, Int.toNat_zero, Int.toNat_one, g0]; refine sm ?_)
  refine exQ.use (always_ret B (.mk 4 [] 0 [(l.getD 0 default)])) (sm ?_)
  repeat (simp only [hget_old hi0, yesC, untilC, alwaysC, List.length_map, hl, Int.toNat_zero, Int.toNat_one, g0]; refine sm ?_)
  refine exQ.use (not_ret B (.mk 13 [] 0 [(.mk 4 [] 0 [(l.getD 0 default)])])) (sm ?_)
  repeat (simp only [hget_old hi0, yesC, untilC, alwaysC, List.length_map, hl, Int.toNat_zero, Int.toNat_one, g0]; refine sm ?_)
  exact leaf

theorem rAG (B : Array Obj) (hm : Tryz.prog.follows .mixedOrders = true) (l : List Fm) (cl : Bool) (hl : l.length = 1) (h : List PObj) (i0 i1 : Nat) (hi0 : h[i0]? = some untilC) (hi1 : h[i1]? = some yesC) : PCalls Tryz.prog B 68 [.d (.sl (l.map dF) cl), .ptr i0 0, .ptr i1 0] h fun r h' => r = .ret (.d (dFu (.mk 4 [] 0 [(.mk 15 [] 0 [yesF, (.mk 4 [] 0 [(l.getD 0 default)])])]))) ∧ h' = h := by
  have g0 := getD_map_lt (g := dF) (l := l) (i := 0) (by omega)
  refine rc_start Tryz.func68 Tryz.ntmps68 rfl (by decide) rfl (by simp) fun hb => ?_
  refine vcC_sound _ _ _ _ (sm ?_)
  refine pwp_drawn [.r 0 0, .r 0 0, .q, .r 0 0, .r 0 0, .q, .q, .q, .e] hm (by kernel_rfl) (sm ?_)
  repeat (simp only [hget_old hi0, hget_old hi1, yesC, untilC, alwaysC, List.length_map, hl, Int.toNat_zero, Int.toNat_one, g0]; refine sm ?_)
  refine exQ.use (not_ret B (l.getD 0 default)) (sm ?_)
  repeat (simp only [hget_old hi0, hget_old hi1, yesC, untilC, alwaysC, List.length_map, hl, Int.toNat_zero, Int.toNat_one, g0]; refine sm ?_)
  refine exQ.use ((until_ret B yesF (.mk 4 [] 0 [(l.getD 0 default)])).fgargs (by simp only [List.map_cons, List.map_nil, fgd_d, fg_agg, fg_int, fg_str, fg_sl, List.map_map, fg_comp_dF, dF_eq]; rfl)) (sm ?_)
  repeat (simp only [hget_old hi0, hget_old hi1, yesC, untilC, alwaysC, List.length_map, hl, Int.toNat_zero, Int.toNat_one, g0]; refine sm ?_)
  refine exQ.use (not_ret B (.mk 15 [] 0 [yesF, (.mk 4 [] 0 [(l.getD 0 default)])])) (sm ?_)
  repeat (simp only [hget_old hi0, hget_old hi1, yesC, untilC, alwaysC, List.length_map, hl, Int.toNat_zero, Int.toNat_one, g0]; refine sm ?_)
  exact leaf

theorem rAU (B : Array Obj) (hm : Tryz.prog.follows .mixedOrders = true) (l : List Fm) (cl : Bool) (hl : l.length = 2) (h : List PObj) (i0 i1 : Nat) (hi0 : h[i0]? = some untilC) (hi1 : h[i1]? = some alwaysC) : PCalls Tryz.prog B 69 [.d (.sl (l.map dF) cl), .ptr i0 0, .ptr i1 0] h fun r h' => r = .ret (.d (dFu (.mk 5 [] 0 [(.mk 4 [] 0 [(.mk 15 [] 0 [(.mk 4 [] 0 [(l.getD 1 default)]), (.mk 5 [] 0 [(.mk 4 [] 0 [(l.getD 0 default)]), .mk 4 [] 0 [(l.getD 1 default)]])])]), .mk 4 [] 0 [(.mk 13 [] 0 [(.mk 4 [] 0 [(l.getD 1 default)])])]]))) ∧ h' = h := by
  have g0 := getD_map_lt (g := dF) (l := l) (i := 0) (by omega)
  have g1 := getD_map_lt (g := dF) (l := l) (i := 1) (by omega)
  refine rc_start Tryz.func69 Tryz.ntmps69 rfl (by decide) rfl (by simp) fun hb => ?_
  refine vcC_sound _ _ _ _ (sm ?_)
  refine pwp_drawn [.r 0 0, .q, .r 0 0, .r 0 0, .q, .q, .r 0 0, .r 0 0, .q, .q, .r 0 0, .r 0 0, .q, .q, .q, .r 0 0, .q, .r 0 0, .r 0 0, .q, .q, .q, .e] hm (by kernel_rfl) (sm ?_)
  repeat (simp only [hget_old hi0, hget_old hi1, yesC, untilC, alwaysC, List.length_map, hl, Int.toNat_zero, Int.toNat_one, g0, g1]; refine sm ?_)
  refine exQ.use (not_ret B (l.getD 1 default)) (sm ?_)
  repeat (simp only [hget_old hi0, hget_old hi1, yesC, untilC, alwaysC, List.length_map, hl, Int.toNat_zero, Int.toNat_one, g0, g1]; refine sm ?_)
  refine exQ.use (not_ret B (l.getD 0 default)) (sm ?_)
  repeat (simp only [hget_old hi0, hget_old hi1, yesC, untilC, alwaysC, List.length_map, hl, Int.toNat_zero, Int.toNat_one, g0, g1]; refine sm ?_)
  refine exQ.use (but_ret B hm (.mk 4 [] 0 [(l.getD 0 default)]) (l.getD 1 default)) (sm ?_)
  repeat (simp only [hget_old hi0, hget_old hi1, yesC, untilC, alwaysC, List.length_map, hl, Int.toNat_zero, Int.toNat_one, g0, g1]; refine sm ?_)
  refine exQ.use (until_ret B (.mk 4 [] 0 [(l.getD 1 default)]) (.mk 5 [] 0 [(.mk 4 [] 0 [(l.getD 0 default)]), .mk 4 [] 0 [(l.getD 1 default)]])) (sm ?_)
  repeat (simp only [hget_old hi0, hget_old hi1, yesC, untilC, alwaysC, List.length_map, hl, Int.toNat_zero, Int.toNat_one, g0, g1]; refine sm ?_)
  refine exQ.use (not_ret B (.mk 15 [] 0 [(.mk 4 [] 0 [(l.getD 1 default)]), (.mk 5 [] 0 [(.mk 4 [] 0 [(l.getD 0 default)]), .mk 4 [] 0 [(l.getD 1 default)]])])) (sm ?_)
  repeat (simp only [hget_old hi0, hget_old hi1, yesC, untilC, alwaysC, List.length_map, hl, Int.toNat_zero, Int.toNat_one, g0, g1]; refine sm ?_)
  refine exQ.use (not_ret B (l.getD 1 default)) (sm ?_)
  repeat (simp only [hget_old hi0, hget_old hi1, yesC, untilC, alwaysC, List.length_map, hl, Int.toNat_zero, Int.toNat_one, g0, g1]; refine sm ?_)
  refine exQ.use (always_ret B (.mk 4 [] 0 [(l.getD 1 default)])) (sm ?_)
  repeat (simp only [hget_old hi0, hget_old hi1, yesC, untilC, alwaysC, List.length_map, hl, Int.toNat_zero, Int.toNat_one, g0, g1]; refine sm ?_)
  refine exQ.use (but_ret B hm (.mk 4 [] 0 [(.mk 15 [] 0 [(.mk 4 [] 0 [(l.getD 1 default)]), (.mk 5 [] 0 [(.mk 4 [] 0 [(l.getD 0 default)]), .mk 4 [] 0 [(l.getD 1 default)]])])]) (.mk 13 [] 0 [(.mk 4 [] 0 [(l.getD 1 default)])])) (sm ?_)
  repeat (simp only [hget_old hi0, hget_old hi1, yesC, untilC, alwaysC, List.length_map, hl, Int.toNat_zero, Int.toNat_one, g0, g1]; refine sm ?_)
  exact leaf

theorem rER (B : Array Obj) (hm : Tryz.prog.follows .mixedOrders = true) (l : List Fm) (cl : Bool) (hl : l.length = 2) (h : List PObj) (i0 i1 : Nat) (hi0 : h[i0]? = some alwaysC) (hi1 : h[i1]? = some untilC) : PCalls Tryz.prog B 70 [.d (.sl (l.map dF) cl), .ptr i0 0, .ptr i1 0] h fun r h' => r = .ret (.d (dFu (.mk 4 [] 0 [(.mk 5 [] 0 [(.mk 4 [] 0 [(.mk 13 [] 0 [(l.getD 1 default)])]), .mk 4 [] 0 [(.mk 15 [] 0 [(l.getD 1 default), (.mk 5 [] 0 [(l.getD 0 default), (l.getD 1 default)])])]])]))) ∧ h' = h := by
  have g0 := getD_map_lt (g := dF) (l := l) (i := 0) (by omega)
  have g1 := getD_map_lt (g := dF) (l := l) (i := 1) (by omega)
  refine rc_start Tryz.func70 Tryz.ntmps70 rfl (by decide) rfl (by simp) fun hb => ?_
  refine vcC_sound _ _ _ _ (sm ?_)
  refine pwp_drawn [.r 0 0, .q, .r 0 0, .r 0 0, .q, .q, .r 0 0, .q, .r 0 0, .r 0 0, .q, .r 0 0, .r 0 0, .q, .r 0 0, .r 0 0, .q, .q, .q, .q, .q, .e] hm (by kernel_rfl) (sm ?_)
  repeat (simp only [hget_old hi0, hget_old hi1, yesC, untilC, alwaysC, List.length_map, hl, Int.toNat_zero, Int.toNat_one, g0, g1]; refine sm ?_)
  refine exQ.use (always_ret B (l.getD 1 default)) (sm ?_)
  repeat (simp only [hget_old hi0, hget_old hi1, yesC, untilC, alwaysC, List.length_map, hl, Int.toNat_zero, Int.toNat_one, g0, g1]; refine sm ?_)
  refine exQ.use (not_ret B (.mk 13 [] 0 [(l.getD 1 default)])) (sm ?_)
  repeat (simp only [hget_old hi0, hget_old hi1, yesC, untilC, alwaysC, List.length_map, hl, Int.toNat_zero, Int.toNat_one, g0, g1]; refine sm ?_)
  refine exQ.use (of2_ret B 5 (l.getD 0 default) (l.getD 1 default)) (sm ?_)
  repeat (simp only [hget_old hi0, hget_old hi1, yesC, untilC, alwaysC, List.length_map, hl, Int.toNat_zero, Int.toNat_one, g0, g1]; refine sm ?_)
  refine exQ.use (until_ret B (l.getD 1 default) (.mk 5 [] 0 [(l.getD 0 default), (l.getD 1 default)])) (sm ?_)
  repeat (simp only [hget_old hi0, hget_old hi1, yesC, untilC, alwaysC, List.length_map, hl, Int.toNat_zero, Int.toNat_one, g0, g1]; refine sm ?_)
  refine exQ.use (but_ret B hm (.mk 4 [] 0 [(.mk 13 [] 0 [(l.getD 1 default)])]) (.mk 15 [] 0 [(l.getD 1 default), (.mk 5 [] 0 [(l.getD 0 default), (l.getD 1 default)])])) (sm ?_)
  repeat (simp only [hget_old hi0, hget_old hi1, yesC, untilC, alwaysC, List.length_map, hl, Int.toNat_zero, Int.toNat_one, g0, g1]; refine sm ?_)
  refine exQ.use (not_ret B (.mk 5 [] 0 [(.mk 4 [] 0 [(.mk 13 [] 0 [(l.getD 1 default)])]), .mk 4 [] 0 [(.mk 15 [] 0 [(l.getD 1 default), (.mk 5 [] 0 [(l.getD 0 default), (l.getD 1 default)])])]])) (sm ?_)
  repeat (simp only [hget_old hi0, hget_old hi1, yesC, untilC, alwaysC, List.length_map, hl, Int.toNat_zero, Int.toNat_one, g0, g1]; refine sm ?_)
  exact leaf

theorem rAR (B : Array Obj) (hm : Tryz.prog.follows .mixedOrders = true) (l : List Fm) (cl : Bool) (hl : l.length = 2) (h : List PObj) (i0 : Nat) (hi0 : h[i0]? = some untilC) : PCalls Tryz.prog B 71 [.d (.sl (l.map dF) cl), .ptr i0 0] h fun r h' => r = .ret (.d (dFu (.mk 4 [] 0 [(.mk 15 [] 0 [(.mk 4 [] 0 [(l.getD 0 default)]), (.mk 4 [] 0 [(l.getD 1 default)])])]))) ∧ h' = h := by
  have g0 := getD_map_lt (g := dF) (l := l) (i := 0) (by omega)
  have g1 := getD_map_lt (g := dF) (l := l) (i := 1) (by omega)
  refine rc_start Tryz.func71 Tryz.ntmps71 rfl (by decide) rfl (by simp) fun hb => ?_
  refine vcC_sound _ _ _ _ (sm ?_)
  refine pwp_drawn [.r 0 0, .q, .r 0 0, .r 0 0, .q, .q, .r 0 0, .r 0 0, .q, .q, .q, .e] hm (by kernel_rfl) (sm ?_)
  repeat (simp only [hget_old hi0, yesC, untilC, alwaysC, List.length_map, hl, Int.toNat_zero, Int.toNat_one, g0, g1]; refine sm ?_)
  refine exQ.use (not_ret B (l.getD 0 default)) (sm ?_)
  repeat (simp only [hget_old hi0, yesC, untilC, alwaysC, List.length_map, hl, Int.toNat_zero, Int.toNat_one, g0, g1]; refine sm ?_)
  refine exQ.use (not_ret B (l.getD 1 default)) (sm ?_)
  repeat (simp only [hget_old hi0, yesC, untilC, alwaysC, List.length_map, hl, Int.toNat_zero, Int.toNat_one, g0, g1]; refine sm ?_)
  refine exQ.use (until_ret B (.mk 4 [] 0 [(l.getD 0 default)]) (.mk 4 [] 0 [(l.getD 1 default)])) (sm ?_)
  repeat (simp only [hget_old hi0, yesC, untilC, alwaysC, List.length_map, hl, Int.toNat_zero, Int.toNat_one, g0, g1]; refine sm ?_)
  refine exQ.use (not_ret B (.mk 15 [] 0 [(.mk 4 [] 0 [(l.getD 0 default)]), (.mk 4 [] 0 [(l.getD 1 default)])])) (sm ?_)
  repeat (simp only [hget_old hi0, yesC, untilC, alwaysC, List.length_map, hl, Int.toNat_zero, Int.toNat_one, g0, g1]; refine sm ?_)
  exact leaf
end Go.Proofs.YtgpbkphiipjjoaaGreatDoor.Pv
end

/- base.rules: a map of rules. -/
section
namespace Go.Proofs.YtgpbkphiipjjoaaGreatDoor.Pv
open Go
set_option maxRecDepth 100000
set_option maxHeartbeats 4000000
set_option linter.unusedSimpArgs false

def ruleKs : List PV := [PV.d (D.int IntKind.i64 1), PV.d (D.int IntKind.i64 6), PV.d (D.int IntKind.i64 7), PV.d (D.int IntKind.i64 8), PV.d (D.int IntKind.i64 10), PV.d (D.int IntKind.i64 11), PV.d (D.int IntKind.i64 12), PV.d (D.int IntKind.i64 14), PV.d (D.int IntKind.i64 16), PV.d (D.int IntKind.i64 17), PV.d (D.int IntKind.i64 18)]
def ruleVs (n : Nat) : List PV := [PV.fn (Fn.func 59) [] [PV.ptr n 0], PV.d (D.fn (Fn.func 61) [] []), PV.d (D.fn (Fn.func 63) [] []), PV.d (D.fn (Fn.func 64) [] []), PV.d (D.fn (Fn.func 65) [] []),
            PV.fn (Fn.func 66) [] [PV.ptr (n + 1) 0, PV.ptr n 0],
            PV.fn (Fn.func 67) [] [PV.ptr (n + 2) 0],
            PV.fn (Fn.func 68) [] [PV.ptr (n + 1) 0, PV.ptr n 0],
            PV.fn (Fn.func 69) [] [PV.ptr (n + 1) 0, PV.ptr (n + 2) 0],
            PV.fn (Fn.func 70) [] [PV.ptr (n + 2) 0, PV.ptr (n + 1) 0],
            PV.fn (Fn.func 71) [] [PV.ptr (n + 1) 0]]
def rulesO (n : Nat) : List PObj := [yesC, untilC, alwaysC, .map ruleKs (ruleVs n)]

theorem rules_ret (B : Array Obj) (h : List PObj) : PCalls Tryz.prog B 31 [] h fun r h' => r = .ret (.mp (h.length + 3)) ∧ h' = h ++ rulesO h.length := by
  refine pcalls_start Tryz.func31 Tryz.ntmps31 rfl (by decide) rfl (by simp) fun hb => ?_
  refine vcC_sound _ _ _ _ (sm ?_)
  rfl

/-- the objects of the rules -/
structure Rules (h : List PObj) (n : Nat) : Prop where
  yes : h[n]? = some yesC
  unt : h[n + 1]? = some untilC
  alw : h[n + 2]? = some alwaysC
  map : h[n + 3]? = some (.map ruleKs (ruleVs n))
theorem Rules.app {h : List PObj} {n : Nat} (r : Rules h n) (l : List PObj) : Rules (h ++ l) n :=
  ⟨hget_old r.yes _, hget_old r.unt _, hget_old r.alw _, hget_old r.map _⟩
theorem Rules.own (h : List PObj) : Rules (h ++ rulesO h.length) h.length := by
  constructor <;> simp [rulesO]

/-- f's own cells, the result's; the round's variable; the list -/
def fC (f : Fm) : PObj := .cells [.d (.int .i64 f.kind), .d (.str f.name), .d (.int .i64 f.lit), .d (.sl (f.kids.map dF) false)]
def zC : PObj := .cells [.d (.int .i64 0), .d (.str []), .d (.int .i64 0), .d (.sl [] true)]
def base2H (f : Fm) : Nat → List PObj
  | 0 => [fC f, zC]
  | n + 1 => [fC f, zC, fC (f.kids.getD 0 default), .row 26 4 (rowOf baseF (f.kids.take (n + 1)))]
theorem base2H0 (f : Fm) : base2H f 0 = [fC f, zC] := rfl
theorem base2Hs (f : Fm) (n : Nat) : base2H f (n + 1) = [fC f, zC, fC (f.kids.getD 0 default), .row 26 4 (rowOf baseF (f.kids.take (n + 1)))] := rfl
def base2L (h : List PObj) : Nat → PV
  | 0 => .d (.sl [] true)
  | n + 1 => .row (h.length + 3) (n + 1)
theorem base2L0 (h : List PObj) : base2L h 0 = .d (.sl [] true) := rfl
theorem base2Ls (h : List PObj) (n : Nat) : base2L h (n + 1) = .row (h.length + 3) (n + 1) := rfl

/-- the parts, as a list that turns no more -/
theorem base2_seal {P : Program} {B : Array Obj} {h : List PObj} {f : Fm} {c : Code} {Q : PPost} {N n : Nat} (hb : HB h) (hn : n < h.length)
    (k : PWp P B h.length c Q ⟨look [(1, .mp n), (2, .ptr h.length 0), (4, .ptr (h.length + 1) 0), (5, .d (.sl (rowD baseF f.kids) false))], N, []⟩ (h ++ base2H f 0)) :
    PWp P B h.length c Q ⟨look [(1, .mp n), (2, .ptr h.length 0), (4, .ptr (h.length + 1) 0), (5, base2L h f.kids.length)], N, []⟩ (h ++ base2H f f.kids.length) := by
  have hc : h.length ≤ (h ++ base2H f 0).length ∧ HB (h ++ base2H f 0) ∧ LB (h ++ base2H f 0).length [(1, .mp n), (2, .ptr h.length 0), (4, .ptr (h.length + 1) 0), (5, .d (.sl (rowD baseF f.kids) false))] ∧ DB (h ++ base2H f 0).length [] := by
    rw [base2H0]; unfold fC zC
    exact hd1 (a := ⟨look [], 0, []⟩) hb
  cases hk : f.kids.length with
  | zero =>
    have hnil : f.kids = [] := List.eq_nil_of_length_eq_zero hk
    rw [base2L0]
    refine pwp_fg ?_
    rw [show (h ++ base2H f 0) = (h ++ base2H f 0) ++ [] by simp]
    refine pwp_drop [(1, .mp n), (2, .ptr h.length 0), (4, .ptr (h.length + 1) 0), (5, .d (.sl (rowD baseF f.kids) false))] hc ?_ k
    simp only [mt_cons, mt_nil, look, hnil]
    exact ⟨rfl, rfl, rfl, rfl, trivial⟩
  | succ m =>
    rw [base2Hs, base2Ls]
    refine pwp_seal (h.length + 3) (E := 26) (sz := 4) (rowD baseF f.kids) ?_ ?_
    · rw [hget_own, ← rowOf_d, List.take_of_length_le (by omega)]; rfl
    · rw [hset_own]
      have e : h ++ [fC f, zC, fC (f.kids.getD 0 default), .frz (rowD baseF f.kids)] = (h ++ base2H f 0) ++ [fC (f.kids.getD 0 default), .frz (rowD baseF f.kids)] := by rw [base2H0]; simp
      show PWp P B h.length c Q _ (h ++ [fC f, zC, fC (f.kids.getD 0 default), .frz (rowD baseF f.kids)])
      rw [e]
      refine pwp_drop [(1, .mp n), (2, .ptr h.length 0), (4, .ptr (h.length + 1) 0), (5, .d (.sl (rowD baseF f.kids) false))] hc ?_ k
      simp only [List.set_cons_succ, List.set_cons_zero, mt_cons, mt_nil, rs_t, mk_t, look, rsvA_ptr, rsvA_row, rsvA_mp, rsv_mp, rsv_row, hget_own, List.getElem?_cons_succ, List.getElem?_cons_zero, rowD_len, hk, Nat.reduceEqDiff, ↓reduceIte, and_true]

theorem ofl_ret (B : Array Obj) (k : Int) (l : List Fm) (cl : Bool) : PRet Tryz.prog B 56 [.d (.int .i64 k), .d (.sl (l.map dF) cl)] (dFu (.mk k [] 0 l)) :=
  (of_ret B k (l.map dF) cl).cast (by rw [fg_map_dF]; rfl)
theorem eq_of_len1 {l : List Fm} (h : l.length = 1) : l = [l.getD 0 default] := by
  match l, h with
  | [a], _ => rfl
theorem eq_of_len2 {l : List Fm} (h : l.length = 2) : l = [l.getD 0 default, l.getD 1 default] := by
  match l, h with
  | [a, b], _ => rfl
theorem base_rc (B : Array Obj) (hm : Tryz.prog.follows .mixedOrders = true) (f : Fm) : allF okK f = true → ∀ (h : List PObj) (n : Nat), Rules h n → PCalls Tryz.prog B 30 [.d (dFu f), .mp (n + 3)] h fun r h' => r = .ret (.d (dFu (baseF f))) ∧ h' = h := by
  induction f using Fm.ind with
  | _ f ih =>
  intro hw h n hr
  rw [allF_eq, Bool.and_eq_true] at hw
  obtain ⟨hw1, hw2⟩ := hw
  simp only [okK, Bool.and_eq_true, Bool.or_eq_true, decide_eq_true_eq] at hw1
  have hkk : kidsF f.kind = f.kids.length := hw1.1
  have hk2 : f.kids.length ≤ 2 := by
    have : kidsF f.kind ≤ 2 := by unfold kidsF; repeat' split <;> omega
    omega
  have hnl : n + 3 < h.length := by
    have := hr.map
    rw [List.getElem?_eq_some_iff] at this
    exact this.1
  refine rc_start Tryz.func30 Tryz.ntmps30 rfl (by decide) rfl (by simp) fun hb => ?_
  refine pwp_seq (vcC_sound _ _ _ _ (sm ?_))
  refine pwp_join [(1, .mp (n + 3)), (2, .ptr h.length 0), (4, .ptr (h.length + 1) 0)] (f.kind ≠ 3) (hd1 hb) (vcC_sound _ _ _ _ (sm ?_)) fun h3 => ?_
  · refine ⟨fun h1 => ?_, fun h1 => ⟨mt, of_decide_eq_false h1, [], rfl⟩⟩
    have h1 := of_decide_eq_true h1
    have e : baseF f = f := by rw [baseF_eq, baseK]; simp [h1]
    rw [e]
    exact leaf
  refine pwp_seq (vcC_sound _ _ _ _ (sm ?_))
  refine pwp_join2 (l := base2H f f.kids.length) [(1, .mp (n + 3)), (2, .ptr h.length 0), (4, .ptr (h.length + 1) 0), (5, base2L h f.kids.length)] True ?_ (vcC_sound _ _ _ _ (sm ?_)) fun _ => ?_
  · cases f.kids.length with
    | zero => rw [base2H0, base2L0]; unfold fC zC; exact hd1 hb
    | succ n => rw [base2Hs, base2Ls]; unfold fC zC; exact hd1 hb
  · refine fun hn => ?_
    refine pwp_loop (κ := Nat) (fun i => [(1, .mp (n + 3)), (2, .ptr h.length 0), (4, .ptr (h.length + 1) 0), (5, base2L h i), (15, .d (.sl (f.kids.map dF) false)), (16, .d (.int .i64 f.kids.length)), (17, .d (.int .i64 i))]) (fun i => h ++ base2H f i) (fun i => i ≤ f.kids.length) (fun i => f.kids.length - i)
      (fun k hk => ?_) ⟨0, [], by omega, by rw [base2L0]; exact mt, (List.append_nil _).symm⟩ fun i hi => ?_
    · cases k with
      | zero => rw [base2H0, base2L0]; unfold fC zC; exact hd1 hb
      | succ n => rw [base2Hs, base2Ls]; unfold fC zC; exact hd1 hb
    cases i with
    | zero =>
      simp only [base2H0, base2L0, fC, zC]
      refine vcC_sound _ _ _ _ (sm ?_)
      refine ⟨fun h1 => ?_, fun h1 => ?_⟩
      · have hlt : 0 < f.kids.length := by have := of_decide_eq_true h1; omega
        simp only [getD_map_lt (g := dF) hlt]
        refine sm ?_
        refine ⟨by omega, rc_use (ih _ (getD_memF hlt) (List.all_eq_true.1 hw2 _ (getD_memF hlt)) _ n (hr.app _)) (sm ?_)⟩
        rw [wsucc hlt (by omega)]
        refine ⟨⟨fun i hi => absurd hi (by omega), fun i hi => ?_⟩, 1, [], by omega, by omega, mt, ?_⟩
        · have : i = 0 := by omega
          subst this; rfl
        · rw [base2Hs, rowOf_succ baseF hlt]; rfl
      · have hge : f.kids.length = 0 := by have := of_decide_eq_false h1; omega
        exact ⟨by rw [hge, base2L0]; exact mt, [], by rw [hge, base2H0]; rfl⟩
    | succ m =>
      simp only [base2Hs, base2Ls, fC, zC]
      refine vcC_sound _ _ _ _ (sm ?_)
      refine ⟨fun h1 => ?_, fun h1 => ?_⟩
      · have hlt : m + 1 < f.kids.length := by have := of_decide_eq_true h1; omega
        simp only [getD_map_lt (g := dF) hlt]
        refine sm ?_
        refine ⟨by omega, rc_use (ih _ (getD_memF hlt) (List.all_eq_true.1 hw2 _ (getD_memF hlt)) _ n (hr.app _)) (sm ?_)⟩
        have hrl : (rowOf baseF (f.kids.take (m + 1))).length = m + 1 := by rw [rowOf_len, List.length_take]; omega
        simp only [hrl]
        rw [wsucc hlt (by omega)]
        refine ⟨⟨trivial, fun i hi => ?_, by omega⟩, m + 1 + 1, [fC (f.kids.getD (m + 1) default)], by omega, by omega, mt, ?_⟩
        · have : i = 0 := by omega
          subst this; rfl
        · rw [base2Hs, rowOf_succ baseF hlt]; rfl
      · have hge : f.kids.length = m + 1 := by have := of_decide_eq_false h1; omega
        exact ⟨by rw [hge, base2Ls]; exact mt, [], by rw [hge, base2Hs]; rfl⟩
  · refine base2_seal hb hnl ?_
    simp only [base2H0, base2L0, fC, zC]
    refine vcC_sound _ _ _ _ (sm ?_)
    have hks : f.kind = 1 ∨ f.kind = 2 ∨ f.kind = 4 ∨ f.kind = 5 ∨ f.kind = 6 ∨ f.kind = 7 ∨ f.kind = 8 ∨ f.kind = 9 ∨ f.kind = 10 ∨ f.kind = 11 ∨ f.kind = 12 ∨ f.kind = 13 ∨ f.kind = 14 ∨ f.kind = 15 ∨ f.kind = 16 ∨ f.kind = 17 ∨ f.kind = 18 := by
      have : 0 ≤ kidsF f.kind := by omega
      have h18 : 1 ≤ f.kind ∧ f.kind ≤ 18 := by unfold kidsF at this; split at this <;> omega
      omega
    rw [rowD_eq]
    rcases hks with hk | hk | hk | hk | hk | hk | hk | hk | hk | hk | hk | hk | hk | hk | hk | hk | hk
    · have hl : (f.kids.map baseF).length = 0 := by rw [List.length_map]; have : kidsF f.kind = 0 := (by rw [hk]; rfl); omega
      simp only [hget_old hr.map, ruleKs, ruleVs, hk, mget_cons, mhas_cons, mhas_nil, mget_nil, keyBeq_int, Int.reduceEq, decide_true, decide_false, Bool.true_or, Bool.false_or]
      refine sm ?_
      have e : baseF f = nF yesF := by rw [baseF_eq, baseK]; simp [hk]
      simp only [nF, oF, tF] at e
      rw [e]
      refine rc_use (rFalse B hm (f.kids.map baseF) false _ n ((hr.app _).yes)) (sm ?_)
      exact leaf
    · have hl : (f.kids.map baseF).length = 0 := by rw [List.length_map]; have : kidsF f.kind = 0 := (by rw [hk]; rfl); omega
      simp only [hget_old hr.map, ruleKs, ruleVs, hk, mget_cons, mhas_cons, mhas_nil, mget_nil, keyBeq_int, Int.reduceEq, decide_true, decide_false, Bool.true_or, Bool.false_or]
      refine sm ?_
      have e : baseF f = .mk 2 [] 0 (f.kids.map baseF) := by
        rw [baseF_eq, baseK, if_neg (by omega), if_pos (by omega)]
        have hz : f.kids = [] := List.eq_nil_of_length_eq_zero (by simpa using hl)
        exact Fm.ext' hk hw1.2.1 (by rcases hw1.2.2 with h | h; exact h; omega) (by rw [hz]; rfl)
      rw [e]
      refine PRet.use (ofl_ret B 2 (f.kids.map baseF) false) (sm ?_)
      exact .inl rfl
    · have hl : (f.kids.map baseF).length = 1 := by rw [List.length_map]; have : kidsF f.kind = 1 := (by rw [hk]; rfl); omega
      simp only [hget_old hr.map, ruleKs, ruleVs, hk, mget_cons, mhas_cons, mhas_nil, mget_nil, keyBeq_int, Int.reduceEq, decide_true, decide_false, Bool.true_or, Bool.false_or]
      refine sm ?_
      have e : baseF f = .mk 4 [] 0 (f.kids.map baseF) := by
        rw [baseF_eq, baseK]
        rw [eq_of_len1 hl]; simp [hk, oF, tF]
      rw [e]
      refine PRet.use (ofl_ret B 4 (f.kids.map baseF) false) (sm ?_)
      exact .inl rfl
    · have hl : (f.kids.map baseF).length = 2 := by rw [List.length_map]; have : kidsF f.kind = 2 := (by rw [hk]; rfl); omega
      simp only [hget_old hr.map, ruleKs, ruleVs, hk, mget_cons, mhas_cons, mhas_nil, mget_nil, keyBeq_int, Int.reduceEq, decide_true, decide_false, Bool.true_or, Bool.false_or]
      refine sm ?_
      have e : baseF f = .mk 5 [] 0 (f.kids.map baseF) := by
        rw [baseF_eq, baseK]
        rw [eq_of_len2 hl]; simp [hk, oF, tF]
      rw [e]
      refine PRet.use (ofl_ret B 5 (f.kids.map baseF) false) (sm ?_)
      exact .inl rfl
    · have hl : (f.kids.map baseF).length = 2 := by rw [List.length_map]; have : kidsF f.kind = 2 := (by rw [hk]; rfl); omega
      simp only [hget_old hr.map, ruleKs, ruleVs, hk, mget_cons, mhas_cons, mhas_nil, mget_nil, keyBeq_int, Int.reduceEq, decide_true, decide_false, Bool.true_or, Bool.false_or]
      refine sm ?_
      have e : baseF f = nF (tF 5 (nF ((f.kids.map baseF).getD 0 default)) (nF ((f.kids.map baseF).getD 1 default))) := by rw [baseF_eq, baseK]; simp [hk]
      simp only [nF, oF, tF] at e
      rw [e]
      refine PRet.use (rOr B hm (f.kids.map baseF) false hl) (sm ?_)
      exact leaf
    · have hl : (f.kids.map baseF).length = 2 := by rw [List.length_map]; have : kidsF f.kind = 2 := (by rw [hk]; rfl); omega
      simp only [hget_old hr.map, ruleKs, ruleVs, hk, mget_cons, mhas_cons, mhas_nil, mget_nil, keyBeq_int, Int.reduceEq, decide_true, decide_false, Bool.true_or, Bool.false_or]
      refine sm ?_
      have e : baseF f = nF (tF 5 ((f.kids.map baseF).getD 0 default) (nF ((f.kids.map baseF).getD 1 default))) := by rw [baseF_eq, baseK]; simp [hk]
      simp only [nF, oF, tF] at e
      rw [e]
      refine PRet.use (rImply B hm (f.kids.map baseF) false hl) (sm ?_)
      exact leaf
    · have hl : (f.kids.map baseF).length = 2 := by rw [List.length_map]; have : kidsF f.kind = 2 := (by rw [hk]; rfl); omega
      simp only [hget_old hr.map, ruleKs, ruleVs, hk, mget_cons, mhas_cons, mhas_nil, mget_nil, keyBeq_int, Int.reduceEq, decide_true, decide_false, Bool.true_or, Bool.false_or]
      refine sm ?_
      have e : baseF f = tF 5 (nF (tF 5 ((f.kids.map baseF).getD 0 default) (nF ((f.kids.map baseF).getD 1 default)))) (nF (tF 5 ((f.kids.map baseF).getD 1 default) (nF ((f.kids.map baseF).getD 0 default)))) := by rw [baseF_eq, baseK]; simp [hk]
      simp only [nF, oF, tF] at e
      rw [e]
      refine PRet.use (rSame B hm (f.kids.map baseF) false hl) (sm ?_)
      exact leaf
    · have hl : (f.kids.map baseF).length = 1 := by rw [List.length_map]; have : kidsF f.kind = 1 := (by rw [hk]; rfl); omega
      simp only [hget_old hr.map, ruleKs, ruleVs, hk, mget_cons, mhas_cons, mhas_nil, mget_nil, keyBeq_int, Int.reduceEq, decide_true, decide_false, Bool.true_or, Bool.false_or]
      refine sm ?_
      have e : baseF f = .mk 9 [] 0 (f.kids.map baseF) := by
        rw [baseF_eq, baseK]
        rw [eq_of_len1 hl]; simp [hk, oF, tF]
      rw [e]
      refine PRet.use (ofl_ret B 9 (f.kids.map baseF) false) (sm ?_)
      exact .inl rfl
    · have hl : (f.kids.map baseF).length = 1 := by rw [List.length_map]; have : kidsF f.kind = 1 := (by rw [hk]; rfl); omega
      simp only [hget_old hr.map, ruleKs, ruleVs, hk, mget_cons, mhas_cons, mhas_nil, mget_nil, keyBeq_int, Int.reduceEq, decide_true, decide_false, Bool.true_or, Bool.false_or]
      refine sm ?_
      have e : baseF f = nF (oF 9 (nF ((f.kids.map baseF).getD 0 default))) := by rw [baseF_eq, baseK]; simp [hk]
      simp only [nF, oF, tF] at e
      rw [e]
      refine PRet.use (rAX B hm (f.kids.map baseF) false hl) (sm ?_)
      exact leaf
    · have hl : (f.kids.map baseF).length = 1 := by rw [List.length_map]; have : kidsF f.kind = 1 := (by rw [hk]; rfl); omega
      simp only [hget_old hr.map, ruleKs, ruleVs, hk, mget_cons, mhas_cons, mhas_nil, mget_nil, keyBeq_int, Int.reduceEq, decide_true, decide_false, Bool.true_or, Bool.false_or]
      refine sm ?_
      have e : baseF f = tF 15 yesF ((f.kids.map baseF).getD 0 default) := by rw [baseF_eq, baseK]; simp [hk]
      simp only [nF, oF, tF] at e
      rw [e]
      refine rc_use (rEF B hm (f.kids.map baseF) false hl _ (n + 1) n ((hr.app _).unt) ((hr.app _).yes)) (sm ?_)
      exact leaf
    · have hl : (f.kids.map baseF).length = 1 := by rw [List.length_map]; have : kidsF f.kind = 1 := (by rw [hk]; rfl); omega
      simp only [hget_old hr.map, ruleKs, ruleVs, hk, mget_cons, mhas_cons, mhas_nil, mget_nil, keyBeq_int, Int.reduceEq, decide_true, decide_false, Bool.true_or, Bool.false_or]
      refine sm ?_
      have e : baseF f = nF (oF 13 (nF ((f.kids.map baseF).getD 0 default))) := by rw [baseF_eq, baseK]; simp [hk]
      simp only [nF, oF, tF] at e
      rw [e]
      refine rc_use (rAF B hm (f.kids.map baseF) false hl _ (n + 2) ((hr.app _).alw)) (sm ?_)
      exact leaf
    · have hl : (f.kids.map baseF).length = 1 := by rw [List.length_map]; have : kidsF f.kind = 1 := (by rw [hk]; rfl); omega
      simp only [hget_old hr.map, ruleKs, ruleVs, hk, mget_cons, mhas_cons, mhas_nil, mget_nil, keyBeq_int, Int.reduceEq, decide_true, decide_false, Bool.true_or, Bool.false_or]
      refine sm ?_
      have e : baseF f = .mk 13 [] 0 (f.kids.map baseF) := by
        rw [baseF_eq, baseK]
        rw [eq_of_len1 hl]; simp [hk, oF, tF]
      rw [e]
      refine PRet.use (ofl_ret B 13 (f.kids.map baseF) false) (sm ?_)
      exact .inl rfl
    · have hl : (f.kids.map baseF).length = 1 := by rw [List.length_map]; have : kidsF f.kind = 1 := (by rw [hk]; rfl); omega
      simp only [hget_old hr.map, ruleKs, ruleVs, hk, mget_cons, mhas_cons, mhas_nil, mget_nil, keyBeq_int, Int.reduceEq, decide_true, decide_false, Bool.true_or, Bool.false_or]
      refine sm ?_
      have e : baseF f = nF (tF 15 yesF (nF ((f.kids.map baseF).getD 0 default))) := by rw [baseF_eq, baseK]; simp [hk]
      simp only [nF, oF, tF] at e
      rw [e]
      refine rc_use (rAG B hm (f.kids.map baseF) false hl _ (n + 1) n ((hr.app _).unt) ((hr.app _).yes)) (sm ?_)
      exact leaf
    · have hl : (f.kids.map baseF).length = 2 := by rw [List.length_map]; have : kidsF f.kind = 2 := (by rw [hk]; rfl); omega
      simp only [hget_old hr.map, ruleKs, ruleVs, hk, mget_cons, mhas_cons, mhas_nil, mget_nil, keyBeq_int, Int.reduceEq, decide_true, decide_false, Bool.true_or, Bool.false_or]
      refine sm ?_
      have e : baseF f = .mk 15 [] 0 (f.kids.map baseF) := by
        rw [baseF_eq, baseK]
        rw [eq_of_len2 hl]; simp [hk, oF, tF]
      rw [e]
      refine PRet.use (ofl_ret B 15 (f.kids.map baseF) false) (sm ?_)
      exact .inl rfl
    · have hl : (f.kids.map baseF).length = 2 := by rw [List.length_map]; have : kidsF f.kind = 2 := (by rw [hk]; rfl); omega
      simp only [hget_old hr.map, ruleKs, ruleVs, hk, mget_cons, mhas_cons, mhas_nil, mget_nil, keyBeq_int, Int.reduceEq, decide_true, decide_false, Bool.true_or, Bool.false_or]
      refine sm ?_
      have e : baseF f = tF 5 (nF (tF 15 (nF ((f.kids.map baseF).getD 1 default)) (tF 5 (nF ((f.kids.map baseF).getD 0 default)) (nF ((f.kids.map baseF).getD 1 default))))) (nF (oF 13 (nF ((f.kids.map baseF).getD 1 default)))) := by rw [baseF_eq, baseK]; simp [hk]
      simp only [nF, oF, tF] at e
      rw [e]
      refine rc_use (rAU B hm (f.kids.map baseF) false hl _ (n + 1) (n + 2) ((hr.app _).unt) ((hr.app _).alw)) (sm ?_)
      exact leaf
    · have hl : (f.kids.map baseF).length = 2 := by rw [List.length_map]; have : kidsF f.kind = 2 := (by rw [hk]; rfl); omega
      simp only [hget_old hr.map, ruleKs, ruleVs, hk, mget_cons, mhas_cons, mhas_nil, mget_nil, keyBeq_int, Int.reduceEq, decide_true, decide_false, Bool.true_or, Bool.false_or]
      refine sm ?_
      have e : baseF f = nF (tF 5 (nF (oF 13 ((f.kids.map baseF).getD 1 default))) (nF (tF 15 ((f.kids.map baseF).getD 1 default) (tF 5 ((f.kids.map baseF).getD 0 default) ((f.kids.map baseF).getD 1 default))))) := by rw [baseF_eq, baseK]; simp [hk]
      simp only [nF, oF, tF] at e
      rw [e]
      refine rc_use (rER B hm (f.kids.map baseF) false hl _ (n + 2) (n + 1) ((hr.app _).alw) ((hr.app _).unt)) (sm ?_)
      exact leaf
    · have hl : (f.kids.map baseF).length = 2 := by rw [List.length_map]; have : kidsF f.kind = 2 := (by rw [hk]; rfl); omega
      simp only [hget_old hr.map, ruleKs, ruleVs, hk, mget_cons, mhas_cons, mhas_nil, mget_nil, keyBeq_int, Int.reduceEq, decide_true, decide_false, Bool.true_or, Bool.false_or]
      refine sm ?_
      have e : baseF f = nF (tF 15 (nF ((f.kids.map baseF).getD 0 default)) (nF ((f.kids.map baseF).getD 1 default))) := by rw [baseF_eq, baseK]; simp [hk]
      simp only [nF, oF, tF] at e
      rw [e]
      refine rc_use (rAR B hm (f.kids.map baseF) false hl _ (n + 1) ((hr.app _).unt)) (sm ?_)
      exact leaf
end Go.Proofs.YtgpbkphiipjjoaaGreatDoor.Pv
end

