/- The table of types of this seat's program; printed by a program. -/
import Derived.Test.YtphdjmaebdmdmaaGreatDoorEvTab
import Derived.Test.YtphdjmaebdmdmaaGreatDoorProg
namespace Go.Proofs.YtphdjmaebdmdmaaGreatDoor
open Go.RowKit
namespace Tab
open Ev
@[reducible] def k1 : TI := ⟨.fn, 1, 8, [.nilFunc]⟩
@[reducible] def k2 : TI := ⟨.int .i64, 1, 8, [.int .i64 0]⟩
@[reducible] def k3 : TI := ⟨.int .i64, 1, 8, [.int .i64 0]⟩
@[reducible] def k4 : TI := ⟨.bool, 1, 1, [.bool false]⟩
@[reducible] def k5 : TI := ⟨.int .u8, 1, 1, [.int .u8 0]⟩
@[reducible] def k6 : TI := ⟨.int .u8, 1, 1, [.int .u8 0]⟩
@[reducible] def k7 : TI := ⟨.struct [(0, 2), (1, 3), (2, 4), (3, 6)], 4, 24, [.int .i64 0, .int .i64 0, .bool false, .int .u8 0]⟩
@[reducible] def k8 : TI := ⟨.struct [(0, 2), (1, 3), (2, 4), (3, 6)], 4, 24, [.int .i64 0, .int .i64 0, .bool false, .int .u8 0]⟩
@[reducible] def k9 : TI := ⟨.str, 1, 16, [.string ⟨#[]⟩]⟩
@[reducible] def k10 : TI := ⟨.str, 1, 16, [.string ⟨#[]⟩]⟩
@[reducible] def k11 : TI := ⟨.str, 1, 16, [.string ⟨#[]⟩]⟩
@[reducible] def k12 : TI := ⟨.int .u64, 1, 8, [.int .u64 0]⟩
@[reducible] def k13 : TI := ⟨.struct [(0, 9), (1, 12)], 2, 24, [.string ⟨#[]⟩, .int .u64 0]⟩
@[reducible] def k14 : TI := ⟨.struct [(0, 9), (1, 12)], 2, 24, [.string ⟨#[]⟩, .int .u64 0]⟩
@[reducible] def k15 : TI := ⟨.ptr, 1, 8, [.pointer none]⟩
@[reducible] def k16 : TI := ⟨.ptr, 1, 8, [.pointer none]⟩
@[reducible] def k17 : TI := ⟨.ptr, 1, 8, [.pointer none]⟩
@[reducible] def k18 : TI := ⟨.struct [(0, 17)], 1, 8, [.pointer none]⟩
@[reducible] def k19 : TI := ⟨.struct [(0, 17)], 1, 8, [.pointer none]⟩
@[reducible] def k20 : TI := ⟨.ifc, 1, 16, [.nilIface]⟩
@[reducible] def k21 : TI := ⟨.int .i32, 1, 4, [.int .i32 0]⟩
@[reducible] def k22 : TI := ⟨.sl 73, 1, 24, [.slice none 0 0]⟩
@[reducible] def k23 : TI := ⟨.sl 78, 1, 24, [.slice none 0 0]⟩
@[reducible] def k24 : TI := ⟨.sl 81, 1, 24, [.slice none 0 0]⟩
@[reducible] def k25 : TI := ⟨.sl 43, 1, 24, [.slice none 0 0]⟩
@[reducible] def k26 : TI := ⟨.sl 71, 1, 24, [.slice none 0 0]⟩
@[reducible] def k27 : TI := ⟨.arr 3 3, 3, 24, [.int .i64 0, .int .i64 0, .int .i64 0]⟩
@[reducible] def k28 : TI := ⟨.flt, 1, 8, [.float .f64 0]⟩
@[reducible] def k29 : TI := ⟨.struct [(0, 28), (1, 28), (2, 28)], 3, 24, [.float .f64 0, .float .f64 0, .float .f64 0]⟩
@[reducible] def k30 : TI := ⟨.struct [(0, 28), (1, 28), (2, 28)], 3, 24, [.float .f64 0, .float .f64 0, .float .f64 0]⟩
@[reducible] def k31 : TI := ⟨.struct [(0, 30), (3, 30), (6, 30), (9, 28)], 10, 80, [.float .f64 0, .float .f64 0, .float .f64 0, .float .f64 0, .float .f64 0, .float .f64 0, .float .f64 0, .float .f64 0, .float .f64 0, .float .f64 0]⟩
@[reducible] def k32 : TI := ⟨.struct [(0, 30), (3, 30), (6, 30), (9, 28)], 10, 80, [.float .f64 0, .float .f64 0, .float .f64 0, .float .f64 0, .float .f64 0, .float .f64 0, .float .f64 0, .float .f64 0, .float .f64 0, .float .f64 0]⟩
@[reducible] def k33 : TI := ⟨.struct [(0, 22), (1, 23), (2, 24), (3, 25), (4, 26), (5, 27), (8, 32)], 18, 224, [.slice none 0 0, .slice none 0 0, .slice none 0 0, .slice none 0 0, .slice none 0 0, .int .i64 0, .int .i64 0, .int .i64 0, .float .f64 0, .float .f64 0, .float .f64 0, .float .f64 0, .float .f64 0, .float .f64 0, .float .f64 0, .float .f64 0, .float .f64 0, .float .f64 0]⟩
@[reducible] def k34 : TI := ⟨.struct [(0, 22), (1, 23), (2, 24), (3, 25), (4, 26), (5, 27), (8, 32)], 18, 224, [.slice none 0 0, .slice none 0 0, .slice none 0 0, .slice none 0 0, .slice none 0 0, .int .i64 0, .int .i64 0, .int .i64 0, .float .f64 0, .float .f64 0, .float .f64 0, .float .f64 0, .float .f64 0, .float .f64 0, .float .f64 0, .float .f64 0, .float .f64 0, .float .f64 0]⟩
@[reducible] def k35 : TI := ⟨.fn, 1, 8, [.nilFunc]⟩
@[reducible] def k36 : TI := ⟨.int .i64, 1, 8, [.int .i64 0]⟩
@[reducible] def k38 : TI := ⟨.fn, 1, 8, [.nilFunc]⟩
@[reducible] def k39 : TI := ⟨.fn, 1, 8, [.nilFunc]⟩
@[reducible] def k40 : TI := ⟨.fn, 1, 8, [.nilFunc]⟩
@[reducible] def k41 : TI := ⟨.fn, 1, 8, [.nilFunc]⟩
@[reducible] def k42 : TI := ⟨.struct [(0, 27), (3, 27), (6, 27), (9, 3)], 10, 80, [.int .i64 0, .int .i64 0, .int .i64 0, .int .i64 0, .int .i64 0, .int .i64 0, .int .i64 0, .int .i64 0, .int .i64 0, .int .i64 0]⟩
@[reducible] def k43 : TI := ⟨.struct [(0, 27), (3, 27), (6, 27), (9, 3)], 10, 80, [.int .i64 0, .int .i64 0, .int .i64 0, .int .i64 0, .int .i64 0, .int .i64 0, .int .i64 0, .int .i64 0, .int .i64 0, .int .i64 0]⟩
@[reducible] def k45 : TI := ⟨.fn, 1, 8, [.nilFunc]⟩
@[reducible] def k46 : TI := ⟨.fn, 1, 8, [.nilFunc]⟩
@[reducible] def k47 : TI := ⟨.fn, 1, 8, [.nilFunc]⟩
@[reducible] def k48 : TI := ⟨.sl 3, 1, 24, [.slice none 0 0]⟩
@[reducible] def k49 : TI := ⟨.fn, 1, 8, [.nilFunc]⟩
@[reducible] def k50 : TI := ⟨.fn, 1, 8, [.nilFunc]⟩
@[reducible] def k51 : TI := ⟨.fn, 1, 8, [.nilFunc]⟩
@[reducible] def k52 : TI := ⟨.fn, 1, 8, [.nilFunc]⟩
@[reducible] def k53 : TI := ⟨.fn, 1, 8, [.nilFunc]⟩
@[reducible] def k54 : TI := ⟨.fn, 1, 8, [.nilFunc]⟩
@[reducible] def k55 : TI := ⟨.ptr, 1, 8, [.pointer none]⟩
@[reducible] def k56 : TI := ⟨.ptr, 1, 8, [.pointer none]⟩
@[reducible] def k57 : TI := ⟨.sl 5, 1, 24, [.slice none 0 0]⟩
@[reducible] def k58 : TI := ⟨.struct [(0, 56), (1, 57)], 2, 32, [.pointer none, .slice none 0 0]⟩
@[reducible] def k59 : TI := ⟨.struct [(0, 56), (1, 57)], 2, 32, [.pointer none, .slice none 0 0]⟩
@[reducible] def k60 : TI := ⟨.struct [(0, 59), (2, 4)], 3, 40, [.pointer none, .slice none 0 0, .bool false]⟩
@[reducible] def k61 : TI := ⟨.struct [(0, 59), (2, 4)], 3, 40, [.pointer none, .slice none 0 0, .bool false]⟩
@[reducible] def k62 : TI := ⟨.ifc, 1, 16, [.nilIface]⟩
@[reducible] def k63 : TI := ⟨.ifc, 1, 16, [.nilIface]⟩
@[reducible] def k65 : TI := ⟨.fn, 1, 8, [.nilFunc]⟩
@[reducible] def k66 : TI := ⟨.fn, 1, 8, [.nilFunc]⟩
@[reducible] def k67 : TI := ⟨.fn, 1, 8, [.nilFunc]⟩
@[reducible] def k68 : TI := ⟨.fn, 1, 8, [.nilFunc]⟩
@[reducible] def k69 : TI := ⟨.fn, 1, 8, [.nilFunc]⟩
@[reducible] def k70 : TI := ⟨.struct [(0, 30), (3, 27)], 6, 48, [.float .f64 0, .float .f64 0, .float .f64 0, .int .i64 0, .int .i64 0, .int .i64 0]⟩
@[reducible] def k71 : TI := ⟨.struct [(0, 30), (3, 27)], 6, 48, [.float .f64 0, .float .f64 0, .float .f64 0, .int .i64 0, .int .i64 0, .int .i64 0]⟩
@[reducible] def k72 : TI := ⟨.struct [(0, 3), (1, 30), (4, 30), (7, 30), (10, 28), (11, 28), (12, 3)], 13, 104, [.int .i64 0, .float .f64 0, .float .f64 0, .float .f64 0, .float .f64 0, .float .f64 0, .float .f64 0, .float .f64 0, .float .f64 0, .float .f64 0, .float .f64 0, .float .f64 0, .int .i64 0]⟩
@[reducible] def k73 : TI := ⟨.struct [(0, 3), (1, 30), (4, 30), (7, 30), (10, 28), (11, 28), (12, 3)], 13, 104, [.int .i64 0, .float .f64 0, .float .f64 0, .float .f64 0, .float .f64 0, .float .f64 0, .float .f64 0, .float .f64 0, .float .f64 0, .float .f64 0, .float .f64 0, .float .f64 0, .int .i64 0]⟩
@[reducible] def k74 : TI := ⟨.fn, 1, 8, [.nilFunc]⟩
@[reducible] def k75 : TI := ⟨.fn, 1, 8, [.nilFunc]⟩
@[reducible] def k76 : TI := ⟨.sl 116, 1, 24, [.slice none 0 0]⟩
@[reducible] def k77 : TI := ⟨.struct [(0, 76), (1, 3)], 2, 32, [.slice none 0 0, .int .i64 0]⟩
@[reducible] def k78 : TI := ⟨.struct [(0, 76), (1, 3)], 2, 32, [.slice none 0 0, .int .i64 0]⟩
@[reducible] def k79 : TI := ⟨.fn, 1, 8, [.nilFunc]⟩
@[reducible] def k80 : TI := ⟨.struct [(0, 3), (1, 3), (2, 30), (5, 28), (6, 48), (7, 3)], 8, 80, [.int .i64 0, .int .i64 0, .float .f64 0, .float .f64 0, .float .f64 0, .float .f64 0, .slice none 0 0, .int .i64 0]⟩
@[reducible] def k81 : TI := ⟨.struct [(0, 3), (1, 3), (2, 30), (5, 28), (6, 48), (7, 3)], 8, 80, [.int .i64 0, .int .i64 0, .float .f64 0, .float .f64 0, .float .f64 0, .float .f64 0, .slice none 0 0, .int .i64 0]⟩
@[reducible] def k82 : TI := ⟨.fn, 1, 8, [.nilFunc]⟩
@[reducible] def k83 : TI := ⟨.fn, 1, 8, [.nilFunc]⟩
@[reducible] def k85 : TI := ⟨.fn, 1, 8, [.nilFunc]⟩
@[reducible] def k86 : TI := ⟨.fn, 1, 8, [.nilFunc]⟩
@[reducible] def k87 : TI := ⟨.sl 28, 1, 24, [.slice none 0 0]⟩
@[reducible] def k88 : TI := ⟨.fn, 1, 8, [.nilFunc]⟩
@[reducible] def k89 : TI := ⟨.fn, 1, 8, [.nilFunc]⟩
@[reducible] def k90 : TI := ⟨.fn, 1, 8, [.nilFunc]⟩
@[reducible] def k92 : TI := ⟨.fn, 1, 8, [.nilFunc]⟩
@[reducible] def k93 : TI := ⟨.fn, 1, 8, [.nilFunc]⟩
@[reducible] def k94 : TI := ⟨.fn, 1, 8, [.nilFunc]⟩
@[reducible] def k95 : TI := ⟨.fn, 1, 8, [.nilFunc]⟩
@[reducible] def k96 : TI := ⟨.fn, 1, 8, [.nilFunc]⟩
@[reducible] def k97 : TI := ⟨.fn, 1, 8, [.nilFunc]⟩
@[reducible] def k98 : TI := ⟨.fn, 1, 8, [.nilFunc]⟩
@[reducible] def k99 : TI := ⟨.fn, 1, 8, [.nilFunc]⟩
@[reducible] def k101 : TI := ⟨.fn, 1, 8, [.nilFunc]⟩
@[reducible] def k102 : TI := ⟨.fn, 1, 8, [.nilFunc]⟩
@[reducible] def k103 : TI := ⟨.fn, 1, 8, [.nilFunc]⟩
@[reducible] def k104 : TI := ⟨.ptr, 1, 8, [.pointer none]⟩
@[reducible] def k105 : TI := ⟨.sl 9, 1, 24, [.slice none 0 0]⟩
@[reducible] def k106 : TI := ⟨.fn, 1, 8, [.nilFunc]⟩
@[reducible] def k107 : TI := ⟨.struct [(0, 105), (1, 34), (19, 105), (20, 27), (23, 4), (24, 4), (25, 3)], 26, 312, [.slice none 0 0, .slice none 0 0, .slice none 0 0, .slice none 0 0, .slice none 0 0, .slice none 0 0, .int .i64 0, .int .i64 0, .int .i64 0, .float .f64 0, .float .f64 0, .float .f64 0, .float .f64 0, .float .f64 0, .float .f64 0, .float .f64 0, .float .f64 0, .float .f64 0, .float .f64 0, .slice none 0 0, .int .i64 0, .int .i64 0, .int .i64 0, .bool false, .bool false, .int .i64 0]⟩
@[reducible] def k108 : TI := ⟨.struct [(0, 105), (1, 34), (19, 105), (20, 27), (23, 4), (24, 4), (25, 3)], 26, 312, [.slice none 0 0, .slice none 0 0, .slice none 0 0, .slice none 0 0, .slice none 0 0, .slice none 0 0, .int .i64 0, .int .i64 0, .int .i64 0, .float .f64 0, .float .f64 0, .float .f64 0, .float .f64 0, .float .f64 0, .float .f64 0, .float .f64 0, .float .f64 0, .float .f64 0, .float .f64 0, .slice none 0 0, .int .i64 0, .int .i64 0, .int .i64 0, .bool false, .bool false, .int .i64 0]⟩
@[reducible] def k109 : TI := ⟨.int .i64, 1, 8, [.int .i64 0]⟩
@[reducible] def k111 : TI := ⟨.fn, 1, 8, [.nilFunc]⟩
@[reducible] def k112 : TI := ⟨.struct [(0, 105), (1, 3), (2, 34), (20, 105), (21, 48), (22, 4), (23, 4), (24, 3), (25, 36)], 26, 328, [.slice none 0 0, .int .i64 0, .slice none 0 0, .slice none 0 0, .slice none 0 0, .slice none 0 0, .slice none 0 0, .int .i64 0, .int .i64 0, .int .i64 0, .float .f64 0, .float .f64 0, .float .f64 0, .float .f64 0, .float .f64 0, .float .f64 0, .float .f64 0, .float .f64 0, .float .f64 0, .float .f64 0, .slice none 0 0, .slice none 0 0, .bool false, .bool false, .int .i64 0, .int .i64 0]⟩
@[reducible] def k113 : TI := ⟨.struct [(0, 105), (1, 3), (2, 34), (20, 105), (21, 48), (22, 4), (23, 4), (24, 3), (25, 36)], 26, 328, [.slice none 0 0, .int .i64 0, .slice none 0 0, .slice none 0 0, .slice none 0 0, .slice none 0 0, .slice none 0 0, .int .i64 0, .int .i64 0, .int .i64 0, .float .f64 0, .float .f64 0, .float .f64 0, .float .f64 0, .float .f64 0, .float .f64 0, .float .f64 0, .float .f64 0, .float .f64 0, .float .f64 0, .slice none 0 0, .slice none 0 0, .bool false, .bool false, .int .i64 0, .int .i64 0]⟩
@[reducible] def k114 : TI := ⟨.fn, 1, 8, [.nilFunc]⟩
@[reducible] def k115 : TI := ⟨.struct [(0, 3), (1, 3), (2, 3), (3, 73)], 16, 128, [.int .i64 0, .int .i64 0, .int .i64 0, .int .i64 0, .float .f64 0, .float .f64 0, .float .f64 0, .float .f64 0, .float .f64 0, .float .f64 0, .float .f64 0, .float .f64 0, .float .f64 0, .float .f64 0, .float .f64 0, .int .i64 0]⟩
@[reducible] def k116 : TI := ⟨.struct [(0, 3), (1, 3), (2, 3), (3, 73)], 16, 128, [.int .i64 0, .int .i64 0, .int .i64 0, .int .i64 0, .float .f64 0, .float .f64 0, .float .f64 0, .float .f64 0, .float .f64 0, .float .f64 0, .float .f64 0, .float .f64 0, .float .f64 0, .float .f64 0, .float .f64 0, .int .i64 0]⟩
@[reducible] def k117 : TI := ⟨.fn, 1, 8, [.nilFunc]⟩
@[reducible] def k118 : TI := ⟨.fn, 1, 8, [.nilFunc]⟩
@[reducible] def k119 : TI := ⟨.fn, 1, 8, [.nilFunc]⟩
@[reducible] def k120 : TI := ⟨.fn, 1, 8, [.nilFunc]⟩
@[reducible] def k121 : TI := ⟨.fn, 1, 8, [.nilFunc]⟩
@[reducible] def k122 : TI := ⟨.fn, 1, 8, [.nilFunc]⟩
@[reducible] def k123 : TI := ⟨.sl 30, 1, 24, [.slice none 0 0]⟩
@[reducible] def k124 : TI := ⟨.fn, 1, 8, [.nilFunc]⟩
@[reducible] def k125 : TI := ⟨.fn, 1, 8, [.nilFunc]⟩
@[reducible] def k126 : TI := ⟨.fn, 1, 8, [.nilFunc]⟩
@[reducible] def k127 : TI := ⟨.ptr, 1, 8, [.pointer none]⟩
@[reducible] def k128 : TI := ⟨.ptr, 1, 8, [.pointer none]⟩
@[reducible] def k129 : TI := ⟨.ifc, 1, 16, [.nilIface]⟩
@[reducible] def k130 : TI := ⟨.ifc, 1, 16, [.nilIface]⟩
@[reducible] def k132 : TI := ⟨.fn, 1, 8, [.nilFunc]⟩
@[reducible] def k133 : TI := ⟨.fn, 1, 8, [.nilFunc]⟩
@[reducible] def k134 : TI := ⟨.struct [(0, 30), (3, 30)], 6, 48, [.float .f64 0, .float .f64 0, .float .f64 0, .float .f64 0, .float .f64 0, .float .f64 0]⟩
@[reducible] def k135 : TI := ⟨.struct [(0, 30), (3, 30)], 6, 48, [.float .f64 0, .float .f64 0, .float .f64 0, .float .f64 0, .float .f64 0, .float .f64 0]⟩
@[reducible] def k136 : TI := ⟨.fn, 1, 8, [.nilFunc]⟩
@[reducible] def k137 : TI := ⟨.fn, 1, 8, [.nilFunc]⟩
@[reducible] def k138 : TI := ⟨.fn, 1, 8, [.nilFunc]⟩
@[reducible] def k139 : TI := ⟨.fn, 1, 8, [.nilFunc]⟩
@[reducible] def k140 : TI := ⟨.fn, 1, 8, [.nilFunc]⟩
@[reducible] def k141 : TI := ⟨.fn, 1, 8, [.nilFunc]⟩
@[reducible] def k142 : TI := ⟨.fn, 1, 8, [.nilFunc]⟩
@[reducible] def k143 : TI := ⟨.fn, 1, 8, [.nilFunc]⟩
@[reducible] def k144 : TI := ⟨.fn, 1, 8, [.nilFunc]⟩
@[reducible] def k145 : TI := ⟨.fn, 1, 8, [.nilFunc]⟩
@[reducible] def k148 : TI := ⟨.fn, 1, 8, [.nilFunc]⟩
@[reducible] def k149 : TI := ⟨.fn, 1, 8, [.nilFunc]⟩
@[reducible] def k150 : TI := ⟨.ptr, 1, 8, [.pointer none]⟩
@[reducible] def k151 : TI := ⟨.fn, 1, 8, [.nilFunc]⟩
@[reducible] def k152 : TI := ⟨.fn, 1, 8, [.nilFunc]⟩
@[reducible] def k153 : TI := ⟨.fn, 1, 8, [.nilFunc]⟩
@[reducible] def k154 : TI := ⟨.fn, 1, 8, [.nilFunc]⟩
@[reducible] def k155 : TI := ⟨.fn, 1, 8, [.nilFunc]⟩
@[reducible] def k156 : TI := ⟨.fn, 1, 8, [.nilFunc]⟩
@[reducible] def k157 : TI := ⟨.fn, 1, 8, [.nilFunc]⟩
@[reducible] def k159 : TI := ⟨.fn, 1, 8, [.nilFunc]⟩
@[reducible] def k160 : TI := ⟨.fn, 1, 8, [.nilFunc]⟩
@[reducible] def k161 : TI := ⟨.fn, 1, 8, [.nilFunc]⟩
@[reducible] def k162 : TI := ⟨.fn, 1, 8, [.nilFunc]⟩
@[reducible] def k163 : TI := ⟨.arr 3 9, 3, 48, [.string ⟨#[]⟩, .string ⟨#[]⟩, .string ⟨#[]⟩]⟩
@[reducible] def k164 : TI := ⟨.arr 4 9, 4, 64, [.string ⟨#[]⟩, .string ⟨#[]⟩, .string ⟨#[]⟩, .string ⟨#[]⟩]⟩
@[reducible] def k165 : TI := ⟨.struct [(0, 30), (3, 28)], 4, 32, [.float .f64 0, .float .f64 0, .float .f64 0, .float .f64 0]⟩
@[reducible] def k166 : TI := ⟨.struct [(0, 30), (3, 28)], 4, 32, [.float .f64 0, .float .f64 0, .float .f64 0, .float .f64 0]⟩
@[reducible] def k167 : TI := ⟨.struct [(0, 135)], 6, 48, [.float .f64 0, .float .f64 0, .float .f64 0, .float .f64 0, .float .f64 0, .float .f64 0]⟩
@[reducible] def k168 : TI := ⟨.struct [(0, 135)], 6, 48, [.float .f64 0, .float .f64 0, .float .f64 0, .float .f64 0, .float .f64 0, .float .f64 0]⟩
@[reducible] def k169 : TI := ⟨.struct [(0, 30), (3, 30), (6, 30)], 9, 72, [.float .f64 0, .float .f64 0, .float .f64 0, .float .f64 0, .float .f64 0, .float .f64 0, .float .f64 0, .float .f64 0, .float .f64 0]⟩
@[reducible] def k170 : TI := ⟨.struct [(0, 30), (3, 30), (6, 30)], 9, 72, [.float .f64 0, .float .f64 0, .float .f64 0, .float .f64 0, .float .f64 0, .float .f64 0, .float .f64 0, .float .f64 0, .float .f64 0]⟩
@[reducible] def k171 : TI := ⟨.struct [(0, 30), (3, 30), (6, 28)], 7, 56, [.float .f64 0, .float .f64 0, .float .f64 0, .float .f64 0, .float .f64 0, .float .f64 0, .float .f64 0]⟩
@[reducible] def k172 : TI := ⟨.struct [(0, 30), (3, 30), (6, 28)], 7, 56, [.float .f64 0, .float .f64 0, .float .f64 0, .float .f64 0, .float .f64 0, .float .f64 0, .float .f64 0]⟩
@[reducible] def k173 : TI := ⟨.struct [(0, 30), (3, 30), (6, 28)], 7, 56, [.float .f64 0, .float .f64 0, .float .f64 0, .float .f64 0, .float .f64 0, .float .f64 0, .float .f64 0]⟩
@[reducible] def k174 : TI := ⟨.struct [(0, 30), (3, 30), (6, 28)], 7, 56, [.float .f64 0, .float .f64 0, .float .f64 0, .float .f64 0, .float .f64 0, .float .f64 0, .float .f64 0]⟩
@[reducible] def k175 : TI := ⟨.struct [(0, 30), (3, 30), (6, 28), (7, 28)], 8, 64, [.float .f64 0, .float .f64 0, .float .f64 0, .float .f64 0, .float .f64 0, .float .f64 0, .float .f64 0, .float .f64 0]⟩
@[reducible] def k176 : TI := ⟨.struct [(0, 30), (3, 30), (6, 28), (7, 28)], 8, 64, [.float .f64 0, .float .f64 0, .float .f64 0, .float .f64 0, .float .f64 0, .float .f64 0, .float .f64 0, .float .f64 0]⟩
@[reducible] def k177 : TI := ⟨.fn, 1, 8, [.nilFunc]⟩
@[reducible] def k178 : TI := ⟨.fn, 1, 8, [.nilFunc]⟩
@[reducible] def k179 : TI := ⟨.fn, 1, 8, [.nilFunc]⟩
@[reducible] def k180 : TI := ⟨.fn, 1, 8, [.nilFunc]⟩
@[reducible] def k181 : TI := ⟨.fn, 1, 8, [.nilFunc]⟩
@[reducible] def k182 : TI := ⟨.fn, 1, 8, [.nilFunc]⟩
@[reducible] def k183 : TI := ⟨.fn, 1, 8, [.nilFunc]⟩
@[reducible] def k184 : TI := ⟨.ptr, 1, 8, [.pointer none]⟩
@[reducible] def k185 : TI := ⟨.fn, 1, 8, [.nilFunc]⟩
@[reducible] def k186 : TI := ⟨.fn, 1, 8, [.nilFunc]⟩
@[reducible] def k187 : TI := ⟨.fn, 1, 8, [.nilFunc]⟩
@[reducible] def k188 : TI := ⟨.fn, 1, 8, [.nilFunc]⟩
@[reducible] def k189 : TI := ⟨.ptr, 1, 8, [.pointer none]⟩
@[reducible] def k190 : TI := ⟨.fn, 1, 8, [.nilFunc]⟩
@[reducible] def k191 : TI := ⟨.fn, 1, 8, [.nilFunc]⟩
@[reducible] def k192 : TI := ⟨.fn, 1, 8, [.nilFunc]⟩
@[reducible] def k193 : TI := ⟨.int .u64, 1, 8, [.int .u64 0]⟩
@[reducible] def k195 : TI := ⟨.fn, 1, 8, [.nilFunc]⟩
@[reducible] def k196 : TI := ⟨.fn, 1, 8, [.nilFunc]⟩
@[reducible] def k197 : TI := ⟨.fn, 1, 8, [.nilFunc]⟩
@[reducible] def k201 : TI := ⟨.fn, 1, 8, [.nilFunc]⟩
@[reducible] def k202 : TI := ⟨.fn, 1, 8, [.nilFunc]⟩
@[reducible] def k203 : TI := ⟨.ptr, 1, 8, [.pointer none]⟩
@[reducible] def k204 : TI := ⟨.arr 24 5, 24, 24, [.int .u8 0, .int .u8 0, .int .u8 0, .int .u8 0, .int .u8 0, .int .u8 0, .int .u8 0, .int .u8 0, .int .u8 0, .int .u8 0, .int .u8 0, .int .u8 0, .int .u8 0, .int .u8 0, .int .u8 0, .int .u8 0, .int .u8 0, .int .u8 0, .int .u8 0, .int .u8 0, .int .u8 0, .int .u8 0, .int .u8 0, .int .u8 0]⟩
@[reducible] def k205 : TI := ⟨.int .u64, 1, 8, [.int .u64 0]⟩
@[reducible] def k206 : TI := ⟨.fn, 1, 8, [.nilFunc]⟩
@[reducible] def k207 : TI := ⟨.fn, 1, 8, [.nilFunc]⟩
@[reducible] def k209 : TI := ⟨.fn, 1, 8, [.nilFunc]⟩
@[reducible] def k215 : TI := ⟨.fn, 1, 8, [.nilFunc]⟩
@[reducible] def k216 : TI := ⟨.fn, 1, 8, [.nilFunc]⟩
@[reducible] def k217 : TI := ⟨.fn, 1, 8, [.nilFunc]⟩
@[reducible] def k218 : TI := ⟨.fn, 1, 8, [.nilFunc]⟩
@[reducible] def k219 : TI := ⟨.fn, 1, 8, [.nilFunc]⟩
@[reducible] def k221 : TI := ⟨.fn, 1, 8, [.nilFunc]⟩
@[reducible] def k222 : TI := ⟨.fn, 1, 8, [.nilFunc]⟩
@[reducible] def k223 : TI := ⟨.fn, 1, 8, [.nilFunc]⟩
@[reducible] def k225 : TI := ⟨.fn, 1, 8, [.nilFunc]⟩
@[reducible] def k226 : TI := ⟨.fn, 1, 8, [.nilFunc]⟩
@[reducible] def k227 : TI := ⟨.int .u32, 1, 4, [.int .u32 0]⟩
@[reducible] def k229 : TI := ⟨.fn, 1, 8, [.nilFunc]⟩
@[reducible] def k231 : TI := ⟨.fn, 1, 8, [.nilFunc]⟩
@[reducible] def k232 : TI := ⟨.fn, 1, 8, [.nilFunc]⟩
@[reducible] def k234 : TI := ⟨.fn, 1, 8, [.nilFunc]⟩
@[reducible] def k235 : TI := ⟨.fn, 1, 8, [.nilFunc]⟩
@[reducible] def k236 : TI := ⟨.arr 20 205, 20, 160, [.int .u64 0, .int .u64 0, .int .u64 0, .int .u64 0, .int .u64 0, .int .u64 0, .int .u64 0, .int .u64 0, .int .u64 0, .int .u64 0, .int .u64 0, .int .u64 0, .int .u64 0, .int .u64 0, .int .u64 0, .int .u64 0, .int .u64 0, .int .u64 0, .int .u64 0, .int .u64 0]⟩
@[reducible] def k238 : TI := ⟨.fn, 1, 8, [.nilFunc]⟩
@[reducible] def k239 : TI := ⟨.fn, 1, 8, [.nilFunc]⟩
@[reducible] def k240 : TI := ⟨.fn, 1, 8, [.nilFunc]⟩
@[reducible] def k241 : TI := ⟨.fn, 1, 8, [.nilFunc]⟩
@[reducible] def k242 : TI := ⟨.int .i64, 1, 8, [.int .i64 0]⟩
@[reducible] def k244 : TI := ⟨.fn, 1, 8, [.nilFunc]⟩
@[reducible] def k245 : TI := ⟨.ptr, 1, 8, [.pointer none]⟩
@[reducible] def k246 : TI := ⟨.fn, 1, 8, [.nilFunc]⟩
@[reducible] def k247 : TI := ⟨.fn, 1, 8, [.nilFunc]⟩
@[reducible] def k248 : TI := ⟨.arr 32 5, 32, 32, [.int .u8 0, .int .u8 0, .int .u8 0, .int .u8 0, .int .u8 0, .int .u8 0, .int .u8 0, .int .u8 0, .int .u8 0, .int .u8 0, .int .u8 0, .int .u8 0, .int .u8 0, .int .u8 0, .int .u8 0, .int .u8 0, .int .u8 0, .int .u8 0, .int .u8 0, .int .u8 0, .int .u8 0, .int .u8 0, .int .u8 0, .int .u8 0, .int .u8 0, .int .u8 0, .int .u8 0, .int .u8 0, .int .u8 0, .int .u8 0, .int .u8 0, .int .u8 0]⟩
@[reducible] def k249 : TI := ⟨.arr 64 5, 64, 64, [.int .u8 0, .int .u8 0, .int .u8 0, .int .u8 0, .int .u8 0, .int .u8 0, .int .u8 0, .int .u8 0, .int .u8 0, .int .u8 0, .int .u8 0, .int .u8 0, .int .u8 0, .int .u8 0, .int .u8 0, .int .u8 0, .int .u8 0, .int .u8 0, .int .u8 0, .int .u8 0, .int .u8 0, .int .u8 0, .int .u8 0, .int .u8 0, .int .u8 0, .int .u8 0, .int .u8 0, .int .u8 0, .int .u8 0, .int .u8 0, .int .u8 0, .int .u8 0, .int .u8 0, .int .u8 0, .int .u8 0, .int .u8 0, .int .u8 0, .int .u8 0, .int .u8 0, .int .u8 0, .int .u8 0, .int .u8 0, .int .u8 0, .int .u8 0, .int .u8 0, .int .u8 0, .int .u8 0, .int .u8 0, .int .u8 0, .int .u8 0, .int .u8 0, .int .u8 0, .int .u8 0, .int .u8 0, .int .u8 0, .int .u8 0, .int .u8 0, .int .u8 0, .int .u8 0, .int .u8 0, .int .u8 0, .int .u8 0, .int .u8 0, .int .u8 0]⟩
@[reducible] def k251 : TI := ⟨.fn, 1, 8, [.nilFunc]⟩
@[reducible] def k252 : TI := ⟨.fn, 1, 8, [.nilFunc]⟩
@[reducible] def k253 : TI := ⟨.struct [(0, 9), (1, 9), (2, 63)], 3, 48, [.string ⟨#[]⟩, .string ⟨#[]⟩, .nilIface]⟩
@[reducible] def k254 : TI := ⟨.struct [(0, 9), (1, 9), (2, 63)], 3, 48, [.string ⟨#[]⟩, .string ⟨#[]⟩, .nilIface]⟩
@[reducible] def k255 : TI := ⟨.fn, 1, 8, [.nilFunc]⟩
@[reducible] def k257 : TI := ⟨.struct [(0, 5), (1, 5)], 2, 2, [.int .u8 0, .int .u8 0]⟩
@[reducible] def k258 : TI := ⟨.struct [(0, 5), (1, 5)], 2, 2, [.int .u8 0, .int .u8 0]⟩
@[reducible] def k259 : TI := ⟨.arr 16 258, 32, 32, [.int .u8 0, .int .u8 0, .int .u8 0, .int .u8 0, .int .u8 0, .int .u8 0, .int .u8 0, .int .u8 0, .int .u8 0, .int .u8 0, .int .u8 0, .int .u8 0, .int .u8 0, .int .u8 0, .int .u8 0, .int .u8 0, .int .u8 0, .int .u8 0, .int .u8 0, .int .u8 0, .int .u8 0, .int .u8 0, .int .u8 0, .int .u8 0, .int .u8 0, .int .u8 0, .int .u8 0, .int .u8 0, .int .u8 0, .int .u8 0, .int .u8 0, .int .u8 0]⟩
@[reducible] def k260 : TI := ⟨.fn, 1, 8, [.nilFunc]⟩
@[reducible] def k261 : TI := ⟨.fn, 1, 8, [.nilFunc]⟩
@[reducible] def k262 : TI := ⟨.ptr, 1, 8, [.pointer none]⟩
@[reducible] def k263 : TI := ⟨.struct [(0, 9)], 1, 16, [.string ⟨#[]⟩]⟩
@[reducible] def k264 : TI := ⟨.struct [(0, 9)], 1, 16, [.string ⟨#[]⟩]⟩
@[reducible] def k265 : TI := ⟨.ptr, 1, 8, [.pointer none]⟩
@[reducible] def k266 : TI := ⟨.ptr, 1, 8, [.pointer none]⟩
@[reducible] def k267 : TI := ⟨.struct [(0, 17), (1, 17), (2, 17), (3, 9)], 4, 40, [.pointer none, .pointer none, .pointer none, .string ⟨#[]⟩]⟩
@[reducible] def k268 : TI := ⟨.struct [(0, 17), (1, 17), (2, 17), (3, 9)], 4, 40, [.pointer none, .pointer none, .pointer none, .string ⟨#[]⟩]⟩
@[reducible] def k269 : TI := ⟨.arr 0 16, 0, 0, []⟩
@[reducible] def k270 : TI := ⟨.struct [(0, 269)], 0, 0, []⟩
@[reducible] def k271 : TI := ⟨.struct [(0, 269)], 0, 0, []⟩
@[reducible] def k272 : TI := ⟨.int .u8, 1, 1, [.int .u8 0]⟩
@[reducible] def k273 : TI := ⟨.int .u8, 1, 1, [.int .u8 0]⟩
@[reducible] def k274 : TI := ⟨.fn, 1, 8, [.nilFunc]⟩
@[reducible] def k275 : TI := ⟨.int .i32, 1, 4, [.int .i32 0]⟩
@[reducible] def k276 : TI := ⟨.int .i32, 1, 4, [.int .i32 0]⟩
@[reducible] def k277 : TI := ⟨.struct [(0, 12), (1, 12), (2, 227), (3, 272), (4, 5), (5, 5), (6, 273), (7, 274), (8, 128), (9, 275), (10, 276)], 11, 48, [.int .u64 0, .int .u64 0, .int .u32 0, .int .u8 0, .int .u8 0, .int .u8 0, .int .u8 0, .nilFunc, .pointer none, .int .i32 0, .int .i32 0]⟩
@[reducible] def k278 : TI := ⟨.struct [(0, 12), (1, 12), (2, 227), (3, 272), (4, 5), (5, 5), (6, 273), (7, 274), (8, 128), (9, 275), (10, 276)], 11, 48, [.int .u64 0, .int .u64 0, .int .u32 0, .int .u8 0, .int .u8 0, .int .u8 0, .int .u8 0, .nilFunc, .pointer none, .int .i32 0, .int .i32 0]⟩
@[reducible] def k279 : TI := ⟨.fn, 1, 8, [.nilFunc]⟩
@[reducible] def k280 : TI := ⟨.fn, 1, 8, [.nilFunc]⟩
@[reducible] def k281 : TI := ⟨.fn, 1, 8, [.nilFunc]⟩
@[reducible] def k282 : TI := ⟨.fn, 1, 8, [.nilFunc]⟩
@[reducible] def k283 : TI := ⟨.fn, 1, 8, [.nilFunc]⟩
@[reducible] def k284 : TI := ⟨.struct [(0, 9), (1, 63)], 2, 32, [.string ⟨#[]⟩, .nilIface]⟩
@[reducible] def k285 : TI := ⟨.struct [(0, 9), (1, 63)], 2, 32, [.string ⟨#[]⟩, .nilIface]⟩
@[reducible] def k286 : TI := ⟨.sl 63, 1, 24, [.slice none 0 0]⟩
@[reducible] def k287 : TI := ⟨.struct [(0, 9), (1, 286)], 2, 40, [.string ⟨#[]⟩, .slice none 0 0]⟩
@[reducible] def k288 : TI := ⟨.struct [(0, 9), (1, 286)], 2, 40, [.string ⟨#[]⟩, .slice none 0 0]⟩
@[reducible] def k289 : TI := ⟨.struct [(0, 30), (3, 30), (6, 28)], 7, 56, [.float .f64 0, .float .f64 0, .float .f64 0, .float .f64 0, .float .f64 0, .float .f64 0, .float .f64 0]⟩
@[reducible] def k290 : TI := ⟨.struct [(0, 30), (3, 30), (6, 28)], 7, 56, [.float .f64 0, .float .f64 0, .float .f64 0, .float .f64 0, .float .f64 0, .float .f64 0, .float .f64 0]⟩
def tree : TT :=
  (.node 139 k139 (.node 69 k69 (.node 33 k33 (.node 17 k17 (.node 9 k9 (.node 5 k5 (.node 3 k3 (.node 2 k2 (.node 1 k1 .nil .nil) .nil) (.node 4 k4 .nil .nil)) (.node 7 k7 (.node 6 k6 .nil .nil) (.node 8 k8 .nil .nil))) (.node 13 k13 (.node 11 k11 (.node 10 k10 .nil .nil) (.node 12 k12 .nil .nil)) (.node 15 k15 (.node 14 k14 .nil .nil) (.node 16 k16 .nil .nil)))) (.node 25 k25 (.node 21 k21 (.node 19 k19 (.node 18 k18 .nil .nil) (.node 20 k20 .nil .nil)) (.node 23 k23 (.node 22 k22 .nil .nil) (.node 24 k24 .nil .nil))) (.node 29 k29 (.node 27 k27 (.node 26 k26 .nil .nil) (.node 28 k28 .nil .nil)) (.node 31 k31 (.node 30 k30 .nil .nil) (.node 32 k32 .nil .nil))))) (.node 52 k52 (.node 43 k43 (.node 39 k39 (.node 36 k36 (.node 35 k35 (.node 34 k34 .nil .nil) .nil) (.node 38 k38 .nil .nil)) (.node 41 k41 (.node 40 k40 .nil .nil) (.node 42 k42 .nil .nil))) (.node 48 k48 (.node 46 k46 (.node 45 k45 .nil .nil) (.node 47 k47 .nil .nil)) (.node 50 k50 (.node 49 k49 .nil .nil) (.node 51 k51 .nil .nil)))) (.node 60 k60 (.node 56 k56 (.node 54 k54 (.node 53 k53 .nil .nil) (.node 55 k55 .nil .nil)) (.node 58 k58 (.node 57 k57 .nil .nil) (.node 59 k59 .nil .nil))) (.node 65 k65 (.node 62 k62 (.node 61 k61 .nil .nil) (.node 63 k63 .nil .nil)) (.node 67 k67 (.node 66 k66 .nil .nil) (.node 68 k68 .nil .nil)))))) (.node 105 k105 (.node 87 k87 (.node 78 k78 (.node 74 k74 (.node 72 k72 (.node 71 k71 (.node 70 k70 .nil .nil) .nil) (.node 73 k73 .nil .nil)) (.node 76 k76 (.node 75 k75 .nil .nil) (.node 77 k77 .nil .nil))) (.node 82 k82 (.node 80 k80 (.node 79 k79 .nil .nil) (.node 81 k81 .nil .nil)) (.node 85 k85 (.node 83 k83 .nil .nil) (.node 86 k86 .nil .nil)))) (.node 96 k96 (.node 92 k92 (.node 89 k89 (.node 88 k88 .nil .nil) (.node 90 k90 .nil .nil)) (.node 94 k94 (.node 93 k93 .nil .nil) (.node 95 k95 .nil .nil))) (.node 101 k101 (.node 98 k98 (.node 97 k97 .nil .nil) (.node 99 k99 .nil .nil)) (.node 103 k103 (.node 102 k102 .nil .nil) (.node 104 k104 .nil .nil))))) (.node 122 k122 (.node 114 k114 (.node 109 k109 (.node 107 k107 (.node 106 k106 .nil .nil) (.node 108 k108 .nil .nil)) (.node 112 k112 (.node 111 k111 .nil .nil) (.node 113 k113 .nil .nil))) (.node 118 k118 (.node 116 k116 (.node 115 k115 .nil .nil) (.node 117 k117 .nil .nil)) (.node 120 k120 (.node 119 k119 .nil .nil) (.node 121 k121 .nil .nil)))) (.node 130 k130 (.node 126 k126 (.node 124 k124 (.node 123 k123 .nil .nil) (.node 125 k125 .nil .nil)) (.node 128 k128 (.node 127 k127 .nil .nil) (.node 129 k129 .nil .nil))) (.node 135 k135 (.node 133 k133 (.node 132 k132 .nil .nil) (.node 134 k134 .nil .nil)) (.node 137 k137 (.node 136 k136 .nil .nil) (.node 138 k138 .nil .nil))))))) (.node 217 k217 (.node 175 k175 (.node 159 k159 (.node 150 k150 (.node 144 k144 (.node 142 k142 (.node 141 k141 (.node 140 k140 .nil .nil) .nil) (.node 143 k143 .nil .nil)) (.node 148 k148 (.node 145 k145 .nil .nil) (.node 149 k149 .nil .nil))) (.node 154 k154 (.node 152 k152 (.node 151 k151 .nil .nil) (.node 153 k153 .nil .nil)) (.node 156 k156 (.node 155 k155 .nil .nil) (.node 157 k157 .nil .nil)))) (.node 167 k167 (.node 163 k163 (.node 161 k161 (.node 160 k160 .nil .nil) (.node 162 k162 .nil .nil)) (.node 165 k165 (.node 164 k164 .nil .nil) (.node 166 k166 .nil .nil))) (.node 171 k171 (.node 169 k169 (.node 168 k168 .nil .nil) (.node 170 k170 .nil .nil)) (.node 173 k173 (.node 172 k172 .nil .nil) (.node 174 k174 .nil .nil))))) (.node 191 k191 (.node 183 k183 (.node 179 k179 (.node 177 k177 (.node 176 k176 .nil .nil) (.node 178 k178 .nil .nil)) (.node 181 k181 (.node 180 k180 .nil .nil) (.node 182 k182 .nil .nil))) (.node 187 k187 (.node 185 k185 (.node 184 k184 .nil .nil) (.node 186 k186 .nil .nil)) (.node 189 k189 (.node 188 k188 .nil .nil) (.node 190 k190 .nil .nil)))) (.node 203 k203 (.node 196 k196 (.node 193 k193 (.node 192 k192 .nil .nil) (.node 195 k195 .nil .nil)) (.node 201 k201 (.node 197 k197 .nil .nil) (.node 202 k202 .nil .nil))) (.node 207 k207 (.node 205 k205 (.node 204 k204 .nil .nil) (.node 206 k206 .nil .nil)) (.node 215 k215 (.node 209 k209 .nil .nil) (.node 216 k216 .nil .nil)))))) (.node 259 k259 (.node 240 k240 (.node 229 k229 (.node 223 k223 (.node 221 k221 (.node 219 k219 (.node 218 k218 .nil .nil) .nil) (.node 222 k222 .nil .nil)) (.node 226 k226 (.node 225 k225 .nil .nil) (.node 227 k227 .nil .nil))) (.node 235 k235 (.node 232 k232 (.node 231 k231 .nil .nil) (.node 234 k234 .nil .nil)) (.node 238 k238 (.node 236 k236 .nil .nil) (.node 239 k239 .nil .nil)))) (.node 249 k249 (.node 245 k245 (.node 242 k242 (.node 241 k241 .nil .nil) (.node 244 k244 .nil .nil)) (.node 247 k247 (.node 246 k246 .nil .nil) (.node 248 k248 .nil .nil))) (.node 254 k254 (.node 252 k252 (.node 251 k251 .nil .nil) (.node 253 k253 .nil .nil)) (.node 257 k257 (.node 255 k255 .nil .nil) (.node 258 k258 .nil .nil))))) (.node 275 k275 (.node 267 k267 (.node 263 k263 (.node 261 k261 (.node 260 k260 .nil .nil) (.node 262 k262 .nil .nil)) (.node 265 k265 (.node 264 k264 .nil .nil) (.node 266 k266 .nil .nil))) (.node 271 k271 (.node 269 k269 (.node 268 k268 .nil .nil) (.node 270 k270 .nil .nil)) (.node 273 k273 (.node 272 k272 .nil .nil) (.node 274 k274 .nil .nil)))) (.node 283 k283 (.node 279 k279 (.node 277 k277 (.node 276 k276 .nil .nil) (.node 278 k278 .nil .nil)) (.node 281 k281 (.node 280 k280 .nil .nil) (.node 282 k282 .nil .nil))) (.node 287 k287 (.node 285 k285 (.node 284 k284 .nil .nil) (.node 286 k286 .nil .nil)) (.node 289 k289 (.node 288 k288 .nil .nil) (.node 290 k290 .nil .nil))))))))
def eqs : ET :=
  .node 27 [.int .i64, .int .i64, .int .i64] (.node 30 [.flt, .flt, .flt] (.node 32 [.flt, .flt, .flt, .flt, .flt, .flt, .flt, .flt, .flt, .flt] (.node 43 [.int .i64, .int .i64, .int .i64, .int .i64, .int .i64, .int .i64, .int .i64, .int .i64, .int .i64, .int .i64] (.node 71 [.flt, .flt, .flt, .int .i64, .int .i64, .int .i64] (.node 73 [.int .i64, .flt, .flt, .flt, .flt, .flt, .flt, .flt, .flt, .flt, .flt, .flt, .int .i64] (.node 116 [.int .i64, .int .i64, .int .i64, .int .i64, .flt, .flt, .flt, .flt, .flt, .flt, .flt, .flt, .flt, .flt, .flt, .int .i64] (.node 135 [.flt, .flt, .flt, .flt, .flt, .flt] (.node 163 [.str, .str, .str] (.node 164 [.str, .str, .str, .str] (.node 166 [.flt, .flt, .flt, .flt] (.node 168 [.flt, .flt, .flt, .flt, .flt, .flt] (.node 170 [.flt, .flt, .flt, .flt, .flt, .flt, .flt, .flt, .flt] (.node 172 [.flt, .flt, .flt, .flt, .flt, .flt, .flt] (.node 174 [.flt, .flt, .flt, .flt, .flt, .flt, .flt] (.node 176 [.flt, .flt, .flt, .flt, .flt, .flt, .flt, .flt] (.node 204 [.int .u8, .int .u8, .int .u8, .int .u8, .int .u8, .int .u8, .int .u8, .int .u8, .int .u8, .int .u8, .int .u8, .int .u8, .int .u8, .int .u8, .int .u8, .int .u8, .int .u8, .int .u8, .int .u8, .int .u8, .int .u8, .int .u8, .int .u8, .int .u8] (.node 236 [.int .u64, .int .u64, .int .u64, .int .u64, .int .u64, .int .u64, .int .u64, .int .u64, .int .u64, .int .u64, .int .u64, .int .u64, .int .u64, .int .u64, .int .u64, .int .u64, .int .u64, .int .u64, .int .u64, .int .u64] (.node 248 [.int .u8, .int .u8, .int .u8, .int .u8, .int .u8, .int .u8, .int .u8, .int .u8, .int .u8, .int .u8, .int .u8, .int .u8, .int .u8, .int .u8, .int .u8, .int .u8, .int .u8, .int .u8, .int .u8, .int .u8, .int .u8, .int .u8, .int .u8, .int .u8, .int .u8, .int .u8, .int .u8, .int .u8, .int .u8, .int .u8, .int .u8, .int .u8] (.node 259 [.int .u8, .int .u8, .int .u8, .int .u8, .int .u8, .int .u8, .int .u8, .int .u8, .int .u8, .int .u8, .int .u8, .int .u8, .int .u8, .int .u8, .int .u8, .int .u8, .int .u8, .int .u8, .int .u8, .int .u8, .int .u8, .int .u8, .int .u8, .int .u8, .int .u8, .int .u8, .int .u8, .int .u8, .int .u8, .int .u8, .int .u8, .int .u8] (.node 290 [.flt, .flt, .flt, .flt, .flt, .flt, .flt] (.nil)))))))))))))))))))))
def mts : MT :=
  .node 166 "rayhouse/shape.bounds" 264 (.node 166 "rayhouse/shape.normal" 265 (.node 166 "rayhouse/shape.strike" 266 (.node 168 "rayhouse/shape.bounds" 269 (.node 168 "rayhouse/shape.normal" 270 (.node 168 "rayhouse/shape.strike" 271 (.node 170 "rayhouse/shape.bounds" 272 (.node 170 "rayhouse/shape.normal" 273 (.node 170 "rayhouse/shape.strike" 274 (.node 172 "rayhouse/shape.bounds" 275 (.node 172 "rayhouse/shape.normal" 276 (.node 172 "rayhouse/shape.strike" 277 (.node 174 "rayhouse/shape.bounds" 278 (.node 174 "rayhouse/shape.normal" 279 (.node 174 "rayhouse/shape.strike" 280 (.node 176 "rayhouse/shape.bounds" 283 (.node 176 "rayhouse/shape.normal" 284 (.node 176 "rayhouse/shape.strike" 285 (.nil))))))))))))))))))
def ims : IT :=
  .node 129 166 (.node 129 168 (.node 129 170 (.node 129 172 (.node 129 174 (.node 129 176 (.node 130 166 (.node 130 168 (.node 130 170 (.node 130 172 (.node 130 174 (.node 130 176 (.nil))))))))))))
theorem ims_ok : ims.okB Tryz.prog = true := by kernel_rfl
def cx : Cx := ⟨tree.get, eqs.get, mts.get, ims.get⟩
theorem mts_ok : mts.okB Tryz.prog = true := by kernel_rfl
theorem eqs_ok : eqs.okB Tryz.prog = true := by kernel_rfl
theorem tree_ok : tree.okB Tryz.prog = true := by kernel_rfl
theorem cx_ok : cx.ok Tryz.prog := ⟨TT.ok tree tree_ok, ET.ok eqs eqs_ok, MT.ok mts mts_ok, IT.ok ims ims_ok⟩
theorem s1 : (cx.ti 1).size = 1 := rfl
theorem b1 : (cx.ti 1).bytes = 8 := rfl
theorem s2 : (cx.ti 2).size = 1 := rfl
theorem b2 : (cx.ti 2).bytes = 8 := rfl
theorem s3 : (cx.ti 3).size = 1 := rfl
theorem b3 : (cx.ti 3).bytes = 8 := rfl
theorem s4 : (cx.ti 4).size = 1 := rfl
theorem b4 : (cx.ti 4).bytes = 1 := rfl
theorem s5 : (cx.ti 5).size = 1 := rfl
theorem b5 : (cx.ti 5).bytes = 1 := rfl
theorem s6 : (cx.ti 6).size = 1 := rfl
theorem b6 : (cx.ti 6).bytes = 1 := rfl
theorem s7 : (cx.ti 7).size = 4 := rfl
theorem b7 : (cx.ti 7).bytes = 24 := rfl
theorem s8 : (cx.ti 8).size = 4 := rfl
theorem b8 : (cx.ti 8).bytes = 24 := rfl
theorem s9 : (cx.ti 9).size = 1 := rfl
theorem b9 : (cx.ti 9).bytes = 16 := rfl
theorem s10 : (cx.ti 10).size = 1 := rfl
theorem b10 : (cx.ti 10).bytes = 16 := rfl
theorem s11 : (cx.ti 11).size = 1 := rfl
theorem b11 : (cx.ti 11).bytes = 16 := rfl
theorem s12 : (cx.ti 12).size = 1 := rfl
theorem b12 : (cx.ti 12).bytes = 8 := rfl
theorem s13 : (cx.ti 13).size = 2 := rfl
theorem b13 : (cx.ti 13).bytes = 24 := rfl
theorem s14 : (cx.ti 14).size = 2 := rfl
theorem b14 : (cx.ti 14).bytes = 24 := rfl
theorem s15 : (cx.ti 15).size = 1 := rfl
theorem b15 : (cx.ti 15).bytes = 8 := rfl
theorem s16 : (cx.ti 16).size = 1 := rfl
theorem b16 : (cx.ti 16).bytes = 8 := rfl
theorem s17 : (cx.ti 17).size = 1 := rfl
theorem b17 : (cx.ti 17).bytes = 8 := rfl
theorem s18 : (cx.ti 18).size = 1 := rfl
theorem b18 : (cx.ti 18).bytes = 8 := rfl
theorem s19 : (cx.ti 19).size = 1 := rfl
theorem b19 : (cx.ti 19).bytes = 8 := rfl
theorem s20 : (cx.ti 20).size = 1 := rfl
theorem b20 : (cx.ti 20).bytes = 16 := rfl
theorem s21 : (cx.ti 21).size = 1 := rfl
theorem b21 : (cx.ti 21).bytes = 4 := rfl
theorem s22 : (cx.ti 22).size = 1 := rfl
theorem b22 : (cx.ti 22).bytes = 24 := rfl
theorem s23 : (cx.ti 23).size = 1 := rfl
theorem b23 : (cx.ti 23).bytes = 24 := rfl
theorem s24 : (cx.ti 24).size = 1 := rfl
theorem b24 : (cx.ti 24).bytes = 24 := rfl
theorem s25 : (cx.ti 25).size = 1 := rfl
theorem b25 : (cx.ti 25).bytes = 24 := rfl
theorem s26 : (cx.ti 26).size = 1 := rfl
theorem b26 : (cx.ti 26).bytes = 24 := rfl
theorem s27 : (cx.ti 27).size = 3 := rfl
theorem b27 : (cx.ti 27).bytes = 24 := rfl
theorem s28 : (cx.ti 28).size = 1 := rfl
theorem b28 : (cx.ti 28).bytes = 8 := rfl
theorem s29 : (cx.ti 29).size = 3 := rfl
theorem b29 : (cx.ti 29).bytes = 24 := rfl
theorem s30 : (cx.ti 30).size = 3 := rfl
theorem b30 : (cx.ti 30).bytes = 24 := rfl
theorem s31 : (cx.ti 31).size = 10 := rfl
theorem b31 : (cx.ti 31).bytes = 80 := rfl
theorem s32 : (cx.ti 32).size = 10 := rfl
theorem b32 : (cx.ti 32).bytes = 80 := rfl
theorem s33 : (cx.ti 33).size = 18 := rfl
theorem b33 : (cx.ti 33).bytes = 224 := rfl
theorem s34 : (cx.ti 34).size = 18 := rfl
theorem b34 : (cx.ti 34).bytes = 224 := rfl
theorem s35 : (cx.ti 35).size = 1 := rfl
theorem b35 : (cx.ti 35).bytes = 8 := rfl
theorem s36 : (cx.ti 36).size = 1 := rfl
theorem b36 : (cx.ti 36).bytes = 8 := rfl
theorem s38 : (cx.ti 38).size = 1 := rfl
theorem b38 : (cx.ti 38).bytes = 8 := rfl
theorem s39 : (cx.ti 39).size = 1 := rfl
theorem b39 : (cx.ti 39).bytes = 8 := rfl
theorem s40 : (cx.ti 40).size = 1 := rfl
theorem b40 : (cx.ti 40).bytes = 8 := rfl
theorem s41 : (cx.ti 41).size = 1 := rfl
theorem b41 : (cx.ti 41).bytes = 8 := rfl
theorem s42 : (cx.ti 42).size = 10 := rfl
theorem b42 : (cx.ti 42).bytes = 80 := rfl
theorem s43 : (cx.ti 43).size = 10 := rfl
theorem b43 : (cx.ti 43).bytes = 80 := rfl
theorem s45 : (cx.ti 45).size = 1 := rfl
theorem b45 : (cx.ti 45).bytes = 8 := rfl
theorem s46 : (cx.ti 46).size = 1 := rfl
theorem b46 : (cx.ti 46).bytes = 8 := rfl
theorem s47 : (cx.ti 47).size = 1 := rfl
theorem b47 : (cx.ti 47).bytes = 8 := rfl
theorem s48 : (cx.ti 48).size = 1 := rfl
theorem b48 : (cx.ti 48).bytes = 24 := rfl
theorem s49 : (cx.ti 49).size = 1 := rfl
theorem b49 : (cx.ti 49).bytes = 8 := rfl
theorem s50 : (cx.ti 50).size = 1 := rfl
theorem b50 : (cx.ti 50).bytes = 8 := rfl
theorem s51 : (cx.ti 51).size = 1 := rfl
theorem b51 : (cx.ti 51).bytes = 8 := rfl
theorem s52 : (cx.ti 52).size = 1 := rfl
theorem b52 : (cx.ti 52).bytes = 8 := rfl
theorem s53 : (cx.ti 53).size = 1 := rfl
theorem b53 : (cx.ti 53).bytes = 8 := rfl
theorem s54 : (cx.ti 54).size = 1 := rfl
theorem b54 : (cx.ti 54).bytes = 8 := rfl
theorem s55 : (cx.ti 55).size = 1 := rfl
theorem b55 : (cx.ti 55).bytes = 8 := rfl
theorem s56 : (cx.ti 56).size = 1 := rfl
theorem b56 : (cx.ti 56).bytes = 8 := rfl
theorem s57 : (cx.ti 57).size = 1 := rfl
theorem b57 : (cx.ti 57).bytes = 24 := rfl
theorem s58 : (cx.ti 58).size = 2 := rfl
theorem b58 : (cx.ti 58).bytes = 32 := rfl
theorem s59 : (cx.ti 59).size = 2 := rfl
theorem b59 : (cx.ti 59).bytes = 32 := rfl
theorem s60 : (cx.ti 60).size = 3 := rfl
theorem b60 : (cx.ti 60).bytes = 40 := rfl
theorem s61 : (cx.ti 61).size = 3 := rfl
theorem b61 : (cx.ti 61).bytes = 40 := rfl
theorem s62 : (cx.ti 62).size = 1 := rfl
theorem b62 : (cx.ti 62).bytes = 16 := rfl
theorem s63 : (cx.ti 63).size = 1 := rfl
theorem b63 : (cx.ti 63).bytes = 16 := rfl
theorem s65 : (cx.ti 65).size = 1 := rfl
theorem b65 : (cx.ti 65).bytes = 8 := rfl
theorem s66 : (cx.ti 66).size = 1 := rfl
theorem b66 : (cx.ti 66).bytes = 8 := rfl
theorem s67 : (cx.ti 67).size = 1 := rfl
theorem b67 : (cx.ti 67).bytes = 8 := rfl
theorem s68 : (cx.ti 68).size = 1 := rfl
theorem b68 : (cx.ti 68).bytes = 8 := rfl
theorem s69 : (cx.ti 69).size = 1 := rfl
theorem b69 : (cx.ti 69).bytes = 8 := rfl
theorem s70 : (cx.ti 70).size = 6 := rfl
theorem b70 : (cx.ti 70).bytes = 48 := rfl
theorem s71 : (cx.ti 71).size = 6 := rfl
theorem b71 : (cx.ti 71).bytes = 48 := rfl
theorem s72 : (cx.ti 72).size = 13 := rfl
theorem b72 : (cx.ti 72).bytes = 104 := rfl
theorem s73 : (cx.ti 73).size = 13 := rfl
theorem b73 : (cx.ti 73).bytes = 104 := rfl
theorem s74 : (cx.ti 74).size = 1 := rfl
theorem b74 : (cx.ti 74).bytes = 8 := rfl
theorem s75 : (cx.ti 75).size = 1 := rfl
theorem b75 : (cx.ti 75).bytes = 8 := rfl
theorem s76 : (cx.ti 76).size = 1 := rfl
theorem b76 : (cx.ti 76).bytes = 24 := rfl
theorem s77 : (cx.ti 77).size = 2 := rfl
theorem b77 : (cx.ti 77).bytes = 32 := rfl
theorem s78 : (cx.ti 78).size = 2 := rfl
theorem b78 : (cx.ti 78).bytes = 32 := rfl
theorem s79 : (cx.ti 79).size = 1 := rfl
theorem b79 : (cx.ti 79).bytes = 8 := rfl
theorem s80 : (cx.ti 80).size = 8 := rfl
theorem b80 : (cx.ti 80).bytes = 80 := rfl
theorem s81 : (cx.ti 81).size = 8 := rfl
theorem b81 : (cx.ti 81).bytes = 80 := rfl
theorem s82 : (cx.ti 82).size = 1 := rfl
theorem b82 : (cx.ti 82).bytes = 8 := rfl
theorem s83 : (cx.ti 83).size = 1 := rfl
theorem b83 : (cx.ti 83).bytes = 8 := rfl
theorem s85 : (cx.ti 85).size = 1 := rfl
theorem b85 : (cx.ti 85).bytes = 8 := rfl
theorem s86 : (cx.ti 86).size = 1 := rfl
theorem b86 : (cx.ti 86).bytes = 8 := rfl
theorem s87 : (cx.ti 87).size = 1 := rfl
theorem b87 : (cx.ti 87).bytes = 24 := rfl
theorem s88 : (cx.ti 88).size = 1 := rfl
theorem b88 : (cx.ti 88).bytes = 8 := rfl
theorem s89 : (cx.ti 89).size = 1 := rfl
theorem b89 : (cx.ti 89).bytes = 8 := rfl
theorem s90 : (cx.ti 90).size = 1 := rfl
theorem b90 : (cx.ti 90).bytes = 8 := rfl
theorem s92 : (cx.ti 92).size = 1 := rfl
theorem b92 : (cx.ti 92).bytes = 8 := rfl
theorem s93 : (cx.ti 93).size = 1 := rfl
theorem b93 : (cx.ti 93).bytes = 8 := rfl
theorem s94 : (cx.ti 94).size = 1 := rfl
theorem b94 : (cx.ti 94).bytes = 8 := rfl
theorem s95 : (cx.ti 95).size = 1 := rfl
theorem b95 : (cx.ti 95).bytes = 8 := rfl
theorem s96 : (cx.ti 96).size = 1 := rfl
theorem b96 : (cx.ti 96).bytes = 8 := rfl
theorem s97 : (cx.ti 97).size = 1 := rfl
theorem b97 : (cx.ti 97).bytes = 8 := rfl
theorem s98 : (cx.ti 98).size = 1 := rfl
theorem b98 : (cx.ti 98).bytes = 8 := rfl
theorem s99 : (cx.ti 99).size = 1 := rfl
theorem b99 : (cx.ti 99).bytes = 8 := rfl
theorem s101 : (cx.ti 101).size = 1 := rfl
theorem b101 : (cx.ti 101).bytes = 8 := rfl
theorem s102 : (cx.ti 102).size = 1 := rfl
theorem b102 : (cx.ti 102).bytes = 8 := rfl
theorem s103 : (cx.ti 103).size = 1 := rfl
theorem b103 : (cx.ti 103).bytes = 8 := rfl
theorem s104 : (cx.ti 104).size = 1 := rfl
theorem b104 : (cx.ti 104).bytes = 8 := rfl
theorem s105 : (cx.ti 105).size = 1 := rfl
theorem b105 : (cx.ti 105).bytes = 24 := rfl
theorem s106 : (cx.ti 106).size = 1 := rfl
theorem b106 : (cx.ti 106).bytes = 8 := rfl
theorem s107 : (cx.ti 107).size = 26 := rfl
theorem b107 : (cx.ti 107).bytes = 312 := rfl
theorem s108 : (cx.ti 108).size = 26 := rfl
theorem b108 : (cx.ti 108).bytes = 312 := rfl
theorem s109 : (cx.ti 109).size = 1 := rfl
theorem b109 : (cx.ti 109).bytes = 8 := rfl
theorem s111 : (cx.ti 111).size = 1 := rfl
theorem b111 : (cx.ti 111).bytes = 8 := rfl
theorem s112 : (cx.ti 112).size = 26 := rfl
theorem b112 : (cx.ti 112).bytes = 328 := rfl
theorem s113 : (cx.ti 113).size = 26 := rfl
theorem b113 : (cx.ti 113).bytes = 328 := rfl
theorem s114 : (cx.ti 114).size = 1 := rfl
theorem b114 : (cx.ti 114).bytes = 8 := rfl
theorem s115 : (cx.ti 115).size = 16 := rfl
theorem b115 : (cx.ti 115).bytes = 128 := rfl
theorem s116 : (cx.ti 116).size = 16 := rfl
theorem b116 : (cx.ti 116).bytes = 128 := rfl
theorem s117 : (cx.ti 117).size = 1 := rfl
theorem b117 : (cx.ti 117).bytes = 8 := rfl
theorem s118 : (cx.ti 118).size = 1 := rfl
theorem b118 : (cx.ti 118).bytes = 8 := rfl
theorem s119 : (cx.ti 119).size = 1 := rfl
theorem b119 : (cx.ti 119).bytes = 8 := rfl
theorem s120 : (cx.ti 120).size = 1 := rfl
theorem b120 : (cx.ti 120).bytes = 8 := rfl
theorem s121 : (cx.ti 121).size = 1 := rfl
theorem b121 : (cx.ti 121).bytes = 8 := rfl
theorem s122 : (cx.ti 122).size = 1 := rfl
theorem b122 : (cx.ti 122).bytes = 8 := rfl
theorem s123 : (cx.ti 123).size = 1 := rfl
theorem b123 : (cx.ti 123).bytes = 24 := rfl
theorem s124 : (cx.ti 124).size = 1 := rfl
theorem b124 : (cx.ti 124).bytes = 8 := rfl
theorem s125 : (cx.ti 125).size = 1 := rfl
theorem b125 : (cx.ti 125).bytes = 8 := rfl
theorem s126 : (cx.ti 126).size = 1 := rfl
theorem b126 : (cx.ti 126).bytes = 8 := rfl
theorem s127 : (cx.ti 127).size = 1 := rfl
theorem b127 : (cx.ti 127).bytes = 8 := rfl
theorem s128 : (cx.ti 128).size = 1 := rfl
theorem b128 : (cx.ti 128).bytes = 8 := rfl
theorem s129 : (cx.ti 129).size = 1 := rfl
theorem b129 : (cx.ti 129).bytes = 16 := rfl
theorem s130 : (cx.ti 130).size = 1 := rfl
theorem b130 : (cx.ti 130).bytes = 16 := rfl
theorem s132 : (cx.ti 132).size = 1 := rfl
theorem b132 : (cx.ti 132).bytes = 8 := rfl
theorem s133 : (cx.ti 133).size = 1 := rfl
theorem b133 : (cx.ti 133).bytes = 8 := rfl
theorem s134 : (cx.ti 134).size = 6 := rfl
theorem b134 : (cx.ti 134).bytes = 48 := rfl
theorem s135 : (cx.ti 135).size = 6 := rfl
theorem b135 : (cx.ti 135).bytes = 48 := rfl
theorem s136 : (cx.ti 136).size = 1 := rfl
theorem b136 : (cx.ti 136).bytes = 8 := rfl
theorem s137 : (cx.ti 137).size = 1 := rfl
theorem b137 : (cx.ti 137).bytes = 8 := rfl
theorem s138 : (cx.ti 138).size = 1 := rfl
theorem b138 : (cx.ti 138).bytes = 8 := rfl
theorem s139 : (cx.ti 139).size = 1 := rfl
theorem b139 : (cx.ti 139).bytes = 8 := rfl
theorem s140 : (cx.ti 140).size = 1 := rfl
theorem b140 : (cx.ti 140).bytes = 8 := rfl
theorem s141 : (cx.ti 141).size = 1 := rfl
theorem b141 : (cx.ti 141).bytes = 8 := rfl
theorem s142 : (cx.ti 142).size = 1 := rfl
theorem b142 : (cx.ti 142).bytes = 8 := rfl
theorem s143 : (cx.ti 143).size = 1 := rfl
theorem b143 : (cx.ti 143).bytes = 8 := rfl
theorem s144 : (cx.ti 144).size = 1 := rfl
theorem b144 : (cx.ti 144).bytes = 8 := rfl
theorem s145 : (cx.ti 145).size = 1 := rfl
theorem b145 : (cx.ti 145).bytes = 8 := rfl
theorem s148 : (cx.ti 148).size = 1 := rfl
theorem b148 : (cx.ti 148).bytes = 8 := rfl
theorem s149 : (cx.ti 149).size = 1 := rfl
theorem b149 : (cx.ti 149).bytes = 8 := rfl
theorem s150 : (cx.ti 150).size = 1 := rfl
theorem b150 : (cx.ti 150).bytes = 8 := rfl
theorem s151 : (cx.ti 151).size = 1 := rfl
theorem b151 : (cx.ti 151).bytes = 8 := rfl
theorem s152 : (cx.ti 152).size = 1 := rfl
theorem b152 : (cx.ti 152).bytes = 8 := rfl
theorem s153 : (cx.ti 153).size = 1 := rfl
theorem b153 : (cx.ti 153).bytes = 8 := rfl
theorem s154 : (cx.ti 154).size = 1 := rfl
theorem b154 : (cx.ti 154).bytes = 8 := rfl
theorem s155 : (cx.ti 155).size = 1 := rfl
theorem b155 : (cx.ti 155).bytes = 8 := rfl
theorem s156 : (cx.ti 156).size = 1 := rfl
theorem b156 : (cx.ti 156).bytes = 8 := rfl
theorem s157 : (cx.ti 157).size = 1 := rfl
theorem b157 : (cx.ti 157).bytes = 8 := rfl
theorem s159 : (cx.ti 159).size = 1 := rfl
theorem b159 : (cx.ti 159).bytes = 8 := rfl
theorem s160 : (cx.ti 160).size = 1 := rfl
theorem b160 : (cx.ti 160).bytes = 8 := rfl
theorem s161 : (cx.ti 161).size = 1 := rfl
theorem b161 : (cx.ti 161).bytes = 8 := rfl
theorem s162 : (cx.ti 162).size = 1 := rfl
theorem b162 : (cx.ti 162).bytes = 8 := rfl
theorem s163 : (cx.ti 163).size = 3 := rfl
theorem b163 : (cx.ti 163).bytes = 48 := rfl
theorem s164 : (cx.ti 164).size = 4 := rfl
theorem b164 : (cx.ti 164).bytes = 64 := rfl
theorem s165 : (cx.ti 165).size = 4 := rfl
theorem b165 : (cx.ti 165).bytes = 32 := rfl
theorem s166 : (cx.ti 166).size = 4 := rfl
theorem b166 : (cx.ti 166).bytes = 32 := rfl
theorem s167 : (cx.ti 167).size = 6 := rfl
theorem b167 : (cx.ti 167).bytes = 48 := rfl
theorem s168 : (cx.ti 168).size = 6 := rfl
theorem b168 : (cx.ti 168).bytes = 48 := rfl
theorem s169 : (cx.ti 169).size = 9 := rfl
theorem b169 : (cx.ti 169).bytes = 72 := rfl
theorem s170 : (cx.ti 170).size = 9 := rfl
theorem b170 : (cx.ti 170).bytes = 72 := rfl
theorem s171 : (cx.ti 171).size = 7 := rfl
theorem b171 : (cx.ti 171).bytes = 56 := rfl
theorem s172 : (cx.ti 172).size = 7 := rfl
theorem b172 : (cx.ti 172).bytes = 56 := rfl
theorem s173 : (cx.ti 173).size = 7 := rfl
theorem b173 : (cx.ti 173).bytes = 56 := rfl
theorem s174 : (cx.ti 174).size = 7 := rfl
theorem b174 : (cx.ti 174).bytes = 56 := rfl
theorem s175 : (cx.ti 175).size = 8 := rfl
theorem b175 : (cx.ti 175).bytes = 64 := rfl
theorem s176 : (cx.ti 176).size = 8 := rfl
theorem b176 : (cx.ti 176).bytes = 64 := rfl
theorem s177 : (cx.ti 177).size = 1 := rfl
theorem b177 : (cx.ti 177).bytes = 8 := rfl
theorem s178 : (cx.ti 178).size = 1 := rfl
theorem b178 : (cx.ti 178).bytes = 8 := rfl
theorem s179 : (cx.ti 179).size = 1 := rfl
theorem b179 : (cx.ti 179).bytes = 8 := rfl
theorem s180 : (cx.ti 180).size = 1 := rfl
theorem b180 : (cx.ti 180).bytes = 8 := rfl
theorem s181 : (cx.ti 181).size = 1 := rfl
theorem b181 : (cx.ti 181).bytes = 8 := rfl
theorem s182 : (cx.ti 182).size = 1 := rfl
theorem b182 : (cx.ti 182).bytes = 8 := rfl
theorem s183 : (cx.ti 183).size = 1 := rfl
theorem b183 : (cx.ti 183).bytes = 8 := rfl
theorem s184 : (cx.ti 184).size = 1 := rfl
theorem b184 : (cx.ti 184).bytes = 8 := rfl
theorem s185 : (cx.ti 185).size = 1 := rfl
theorem b185 : (cx.ti 185).bytes = 8 := rfl
theorem s186 : (cx.ti 186).size = 1 := rfl
theorem b186 : (cx.ti 186).bytes = 8 := rfl
theorem s187 : (cx.ti 187).size = 1 := rfl
theorem b187 : (cx.ti 187).bytes = 8 := rfl
theorem s188 : (cx.ti 188).size = 1 := rfl
theorem b188 : (cx.ti 188).bytes = 8 := rfl
theorem s189 : (cx.ti 189).size = 1 := rfl
theorem b189 : (cx.ti 189).bytes = 8 := rfl
theorem s190 : (cx.ti 190).size = 1 := rfl
theorem b190 : (cx.ti 190).bytes = 8 := rfl
theorem s191 : (cx.ti 191).size = 1 := rfl
theorem b191 : (cx.ti 191).bytes = 8 := rfl
theorem s192 : (cx.ti 192).size = 1 := rfl
theorem b192 : (cx.ti 192).bytes = 8 := rfl
theorem s193 : (cx.ti 193).size = 1 := rfl
theorem b193 : (cx.ti 193).bytes = 8 := rfl
theorem s195 : (cx.ti 195).size = 1 := rfl
theorem b195 : (cx.ti 195).bytes = 8 := rfl
theorem s196 : (cx.ti 196).size = 1 := rfl
theorem b196 : (cx.ti 196).bytes = 8 := rfl
theorem s197 : (cx.ti 197).size = 1 := rfl
theorem b197 : (cx.ti 197).bytes = 8 := rfl
theorem s201 : (cx.ti 201).size = 1 := rfl
theorem b201 : (cx.ti 201).bytes = 8 := rfl
theorem s202 : (cx.ti 202).size = 1 := rfl
theorem b202 : (cx.ti 202).bytes = 8 := rfl
theorem s203 : (cx.ti 203).size = 1 := rfl
theorem b203 : (cx.ti 203).bytes = 8 := rfl
theorem s204 : (cx.ti 204).size = 24 := rfl
theorem b204 : (cx.ti 204).bytes = 24 := rfl
theorem s205 : (cx.ti 205).size = 1 := rfl
theorem b205 : (cx.ti 205).bytes = 8 := rfl
theorem s206 : (cx.ti 206).size = 1 := rfl
theorem b206 : (cx.ti 206).bytes = 8 := rfl
theorem s207 : (cx.ti 207).size = 1 := rfl
theorem b207 : (cx.ti 207).bytes = 8 := rfl
theorem s209 : (cx.ti 209).size = 1 := rfl
theorem b209 : (cx.ti 209).bytes = 8 := rfl
theorem s215 : (cx.ti 215).size = 1 := rfl
theorem b215 : (cx.ti 215).bytes = 8 := rfl
theorem s216 : (cx.ti 216).size = 1 := rfl
theorem b216 : (cx.ti 216).bytes = 8 := rfl
theorem s217 : (cx.ti 217).size = 1 := rfl
theorem b217 : (cx.ti 217).bytes = 8 := rfl
theorem s218 : (cx.ti 218).size = 1 := rfl
theorem b218 : (cx.ti 218).bytes = 8 := rfl
theorem s219 : (cx.ti 219).size = 1 := rfl
theorem b219 : (cx.ti 219).bytes = 8 := rfl
theorem s221 : (cx.ti 221).size = 1 := rfl
theorem b221 : (cx.ti 221).bytes = 8 := rfl
theorem s222 : (cx.ti 222).size = 1 := rfl
theorem b222 : (cx.ti 222).bytes = 8 := rfl
theorem s223 : (cx.ti 223).size = 1 := rfl
theorem b223 : (cx.ti 223).bytes = 8 := rfl
theorem s225 : (cx.ti 225).size = 1 := rfl
theorem b225 : (cx.ti 225).bytes = 8 := rfl
theorem s226 : (cx.ti 226).size = 1 := rfl
theorem b226 : (cx.ti 226).bytes = 8 := rfl
theorem s227 : (cx.ti 227).size = 1 := rfl
theorem b227 : (cx.ti 227).bytes = 4 := rfl
theorem s229 : (cx.ti 229).size = 1 := rfl
theorem b229 : (cx.ti 229).bytes = 8 := rfl
theorem s231 : (cx.ti 231).size = 1 := rfl
theorem b231 : (cx.ti 231).bytes = 8 := rfl
theorem s232 : (cx.ti 232).size = 1 := rfl
theorem b232 : (cx.ti 232).bytes = 8 := rfl
theorem s234 : (cx.ti 234).size = 1 := rfl
theorem b234 : (cx.ti 234).bytes = 8 := rfl
theorem s235 : (cx.ti 235).size = 1 := rfl
theorem b235 : (cx.ti 235).bytes = 8 := rfl
theorem s236 : (cx.ti 236).size = 20 := rfl
theorem b236 : (cx.ti 236).bytes = 160 := rfl
theorem s238 : (cx.ti 238).size = 1 := rfl
theorem b238 : (cx.ti 238).bytes = 8 := rfl
theorem s239 : (cx.ti 239).size = 1 := rfl
theorem b239 : (cx.ti 239).bytes = 8 := rfl
theorem s240 : (cx.ti 240).size = 1 := rfl
theorem b240 : (cx.ti 240).bytes = 8 := rfl
theorem s241 : (cx.ti 241).size = 1 := rfl
theorem b241 : (cx.ti 241).bytes = 8 := rfl
theorem s242 : (cx.ti 242).size = 1 := rfl
theorem b242 : (cx.ti 242).bytes = 8 := rfl
theorem s244 : (cx.ti 244).size = 1 := rfl
theorem b244 : (cx.ti 244).bytes = 8 := rfl
theorem s245 : (cx.ti 245).size = 1 := rfl
theorem b245 : (cx.ti 245).bytes = 8 := rfl
theorem s246 : (cx.ti 246).size = 1 := rfl
theorem b246 : (cx.ti 246).bytes = 8 := rfl
theorem s247 : (cx.ti 247).size = 1 := rfl
theorem b247 : (cx.ti 247).bytes = 8 := rfl
theorem s248 : (cx.ti 248).size = 32 := rfl
theorem b248 : (cx.ti 248).bytes = 32 := rfl
theorem s249 : (cx.ti 249).size = 64 := rfl
theorem b249 : (cx.ti 249).bytes = 64 := rfl
theorem s251 : (cx.ti 251).size = 1 := rfl
theorem b251 : (cx.ti 251).bytes = 8 := rfl
theorem s252 : (cx.ti 252).size = 1 := rfl
theorem b252 : (cx.ti 252).bytes = 8 := rfl
theorem s253 : (cx.ti 253).size = 3 := rfl
theorem b253 : (cx.ti 253).bytes = 48 := rfl
theorem s254 : (cx.ti 254).size = 3 := rfl
theorem b254 : (cx.ti 254).bytes = 48 := rfl
theorem s255 : (cx.ti 255).size = 1 := rfl
theorem b255 : (cx.ti 255).bytes = 8 := rfl
theorem s257 : (cx.ti 257).size = 2 := rfl
theorem b257 : (cx.ti 257).bytes = 2 := rfl
theorem s258 : (cx.ti 258).size = 2 := rfl
theorem b258 : (cx.ti 258).bytes = 2 := rfl
theorem s259 : (cx.ti 259).size = 32 := rfl
theorem b259 : (cx.ti 259).bytes = 32 := rfl
theorem s260 : (cx.ti 260).size = 1 := rfl
theorem b260 : (cx.ti 260).bytes = 8 := rfl
theorem s261 : (cx.ti 261).size = 1 := rfl
theorem b261 : (cx.ti 261).bytes = 8 := rfl
theorem s262 : (cx.ti 262).size = 1 := rfl
theorem b262 : (cx.ti 262).bytes = 8 := rfl
theorem s263 : (cx.ti 263).size = 1 := rfl
theorem b263 : (cx.ti 263).bytes = 16 := rfl
theorem s264 : (cx.ti 264).size = 1 := rfl
theorem b264 : (cx.ti 264).bytes = 16 := rfl
theorem s265 : (cx.ti 265).size = 1 := rfl
theorem b265 : (cx.ti 265).bytes = 8 := rfl
theorem s266 : (cx.ti 266).size = 1 := rfl
theorem b266 : (cx.ti 266).bytes = 8 := rfl
theorem s267 : (cx.ti 267).size = 4 := rfl
theorem b267 : (cx.ti 267).bytes = 40 := rfl
theorem s268 : (cx.ti 268).size = 4 := rfl
theorem b268 : (cx.ti 268).bytes = 40 := rfl
theorem s269 : (cx.ti 269).size = 0 := rfl
theorem b269 : (cx.ti 269).bytes = 0 := rfl
theorem s270 : (cx.ti 270).size = 0 := rfl
theorem b270 : (cx.ti 270).bytes = 0 := rfl
theorem s271 : (cx.ti 271).size = 0 := rfl
theorem b271 : (cx.ti 271).bytes = 0 := rfl
theorem s272 : (cx.ti 272).size = 1 := rfl
theorem b272 : (cx.ti 272).bytes = 1 := rfl
theorem s273 : (cx.ti 273).size = 1 := rfl
theorem b273 : (cx.ti 273).bytes = 1 := rfl
theorem s274 : (cx.ti 274).size = 1 := rfl
theorem b274 : (cx.ti 274).bytes = 8 := rfl
theorem s275 : (cx.ti 275).size = 1 := rfl
theorem b275 : (cx.ti 275).bytes = 4 := rfl
theorem s276 : (cx.ti 276).size = 1 := rfl
theorem b276 : (cx.ti 276).bytes = 4 := rfl
theorem s277 : (cx.ti 277).size = 11 := rfl
theorem b277 : (cx.ti 277).bytes = 48 := rfl
theorem s278 : (cx.ti 278).size = 11 := rfl
theorem b278 : (cx.ti 278).bytes = 48 := rfl
theorem s279 : (cx.ti 279).size = 1 := rfl
theorem b279 : (cx.ti 279).bytes = 8 := rfl
theorem s280 : (cx.ti 280).size = 1 := rfl
theorem b280 : (cx.ti 280).bytes = 8 := rfl
theorem s281 : (cx.ti 281).size = 1 := rfl
theorem b281 : (cx.ti 281).bytes = 8 := rfl
theorem s282 : (cx.ti 282).size = 1 := rfl
theorem b282 : (cx.ti 282).bytes = 8 := rfl
theorem s283 : (cx.ti 283).size = 1 := rfl
theorem b283 : (cx.ti 283).bytes = 8 := rfl
theorem s284 : (cx.ti 284).size = 2 := rfl
theorem b284 : (cx.ti 284).bytes = 32 := rfl
theorem s285 : (cx.ti 285).size = 2 := rfl
theorem b285 : (cx.ti 285).bytes = 32 := rfl
theorem s286 : (cx.ti 286).size = 1 := rfl
theorem b286 : (cx.ti 286).bytes = 24 := rfl
theorem s287 : (cx.ti 287).size = 2 := rfl
theorem b287 : (cx.ti 287).bytes = 40 := rfl
theorem s288 : (cx.ti 288).size = 2 := rfl
theorem b288 : (cx.ti 288).bytes = 40 := rfl
theorem s289 : (cx.ti 289).size = 7 := rfl
theorem b289 : (cx.ti 289).bytes = 56 := rfl
theorem s290 : (cx.ti 290).size = 7 := rfl
theorem b290 : (cx.ti 290).bytes = 56 := rfl
end Tab
end Go.Proofs.YtphdjmaebdmdmaaGreatDoor
