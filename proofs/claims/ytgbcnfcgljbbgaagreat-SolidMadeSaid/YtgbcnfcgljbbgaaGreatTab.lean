/- The table of types of this seat's program; printed by a program. -/
import Derived.Test.YtgbcnfcgljbbgaaGreatEvTab
import Derived.Test.YtgbcnfcgljbbgaaGreatProg
namespace Go.Proofs.YtgbcnfcgljbbgaaGreat
open Go.RowKit
namespace Tab
open Ev
@[reducible] def k1 : TI := ⟨.fn, 1, 8, [.nilFunc]⟩
@[reducible] def k2 : TI := ⟨.int .i64, 1, 8, [.int .i64 0]⟩
@[reducible] def k3 : TI := ⟨.int .i64, 1, 8, [.int .i64 0]⟩
@[reducible] def k4 : TI := ⟨.bool, 1, 1, [.bool false]⟩
@[reducible] def k5 : TI := ⟨.int .u8, 1, 1, [.int .u8 0]⟩
@[reducible] def k6 : TI := ⟨.int .u8, 1, 1, [.int .u8 0]⟩
@[reducible] def k7 : TI := ⟨.struct [(0, 2), (1, 3), (2, 4), (3, 6)], 4, 24, [.int .i64 0, .int .i64 0, .bool false, .int .u8 0]⟩
@[reducible] def k8 : TI := ⟨.struct [(0, 2), (1, 3), (2, 4), (3, 6)], 4, 24, [.int .i64 0, .int .i64 0, .bool false, .int .u8 0]⟩
@[reducible] def k9 : TI := ⟨.str, 1, 16, [.string ⟨#[]⟩]⟩
@[reducible] def k10 : TI := ⟨.str, 1, 16, [.string ⟨#[]⟩]⟩
@[reducible] def k11 : TI := ⟨.str, 1, 16, [.string ⟨#[]⟩]⟩
@[reducible] def k12 : TI := ⟨.int .u64, 1, 8, [.int .u64 0]⟩
@[reducible] def k13 : TI := ⟨.struct [(0, 9), (1, 12)], 2, 24, [.string ⟨#[]⟩, .int .u64 0]⟩
@[reducible] def k14 : TI := ⟨.struct [(0, 9), (1, 12)], 2, 24, [.string ⟨#[]⟩, .int .u64 0]⟩
@[reducible] def k15 : TI := ⟨.ptr, 1, 8, [.pointer none]⟩
@[reducible] def k16 : TI := ⟨.ptr, 1, 8, [.pointer none]⟩
@[reducible] def k17 : TI := ⟨.ptr, 1, 8, [.pointer none]⟩
@[reducible] def k18 : TI := ⟨.struct [(0, 17)], 1, 8, [.pointer none]⟩
@[reducible] def k19 : TI := ⟨.struct [(0, 17)], 1, 8, [.pointer none]⟩
@[reducible] def k20 : TI := ⟨.ifc, 1, 16, [.nilIface]⟩
@[reducible] def k21 : TI := ⟨.int .i32, 1, 4, [.int .i32 0]⟩
@[reducible] def k22 : TI := ⟨.sl 61, 1, 24, [.slice none 0 0]⟩
@[reducible] def k23 : TI := ⟨.struct [(0, 22), (1, 3)], 2, 32, [.slice none 0 0, .int .i64 0]⟩
@[reducible] def k24 : TI := ⟨.struct [(0, 22), (1, 3)], 2, 32, [.slice none 0 0, .int .i64 0]⟩
@[reducible] def k25 : TI := ⟨.flt, 1, 8, [.float .f64 0]⟩
@[reducible] def k26 : TI := ⟨.struct [(0, 25), (1, 25), (2, 25)], 3, 24, [.float .f64 0, .float .f64 0, .float .f64 0]⟩
@[reducible] def k27 : TI := ⟨.struct [(0, 25), (1, 25), (2, 25)], 3, 24, [.float .f64 0, .float .f64 0, .float .f64 0]⟩
@[reducible] def k28 : TI := ⟨.struct [(0, 27), (3, 27), (6, 25)], 7, 56, [.float .f64 0, .float .f64 0, .float .f64 0, .float .f64 0, .float .f64 0, .float .f64 0, .float .f64 0]⟩
@[reducible] def k29 : TI := ⟨.struct [(0, 27), (3, 27), (6, 25)], 7, 56, [.float .f64 0, .float .f64 0, .float .f64 0, .float .f64 0, .float .f64 0, .float .f64 0, .float .f64 0]⟩
@[reducible] def k30 : TI := ⟨.struct [(0, 25), (1, 3), (2, 4)], 3, 24, [.float .f64 0, .int .i64 0, .bool false]⟩
@[reducible] def k31 : TI := ⟨.struct [(0, 25), (1, 3), (2, 4)], 3, 24, [.float .f64 0, .int .i64 0, .bool false]⟩
@[reducible] def k32 : TI := ⟨.struct [(0, 27), (3, 27)], 6, 48, [.float .f64 0, .float .f64 0, .float .f64 0, .float .f64 0, .float .f64 0, .float .f64 0]⟩
@[reducible] def k33 : TI := ⟨.struct [(0, 27), (3, 27)], 6, 48, [.float .f64 0, .float .f64 0, .float .f64 0, .float .f64 0, .float .f64 0, .float .f64 0]⟩
@[reducible] def k34 : TI := ⟨.int .i64, 1, 8, [.int .i64 0]⟩
@[reducible] def k36 : TI := ⟨.fn, 1, 8, [.nilFunc]⟩
@[reducible] def k37 : TI := ⟨.fn, 1, 8, [.nilFunc]⟩
@[reducible] def k38 : TI := ⟨.fn, 1, 8, [.nilFunc]⟩
@[reducible] def k39 : TI := ⟨.sl 44, 1, 24, [.slice none 0 0]⟩
@[reducible] def k41 : TI := ⟨.fn, 1, 8, [.nilFunc]⟩
@[reducible] def k42 : TI := ⟨.fn, 1, 8, [.nilFunc]⟩
@[reducible] def k43 : TI := ⟨.struct [(0, 31), (3, 31)], 6, 48, [.float .f64 0, .int .i64 0, .bool false, .float .f64 0, .int .i64 0, .bool false]⟩
@[reducible] def k44 : TI := ⟨.struct [(0, 31), (3, 31)], 6, 48, [.float .f64 0, .int .i64 0, .bool false, .float .f64 0, .int .i64 0, .bool false]⟩
@[reducible] def k46 : TI := ⟨.fn, 1, 8, [.nilFunc]⟩
@[reducible] def k48 : TI := ⟨.fn, 1, 8, [.nilFunc]⟩
@[reducible] def k49 : TI := ⟨.fn, 1, 8, [.nilFunc]⟩
@[reducible] def k50 : TI := ⟨.fn, 1, 8, [.nilFunc]⟩
@[reducible] def k51 : TI := ⟨.sl 3, 1, 24, [.slice none 0 0]⟩
@[reducible] def k52 : TI := ⟨.fn, 1, 8, [.nilFunc]⟩
@[reducible] def k53 : TI := ⟨.fn, 1, 8, [.nilFunc]⟩
@[reducible] def k54 : TI := ⟨.fn, 1, 8, [.nilFunc]⟩
@[reducible] def k55 : TI := ⟨.fn, 1, 8, [.nilFunc]⟩
@[reducible] def k56 : TI := ⟨.fn, 1, 8, [.nilFunc]⟩
@[reducible] def k57 : TI := ⟨.fn, 1, 8, [.nilFunc]⟩
@[reducible] def k58 : TI := ⟨.struct [(0, 3), (1, 27), (4, 27), (7, 27), (10, 25), (11, 25), (12, 3)], 13, 104, [.int .i64 0, .float .f64 0, .float .f64 0, .float .f64 0, .float .f64 0, .float .f64 0, .float .f64 0, .float .f64 0, .float .f64 0, .float .f64 0, .float .f64 0, .float .f64 0, .int .i64 0]⟩
@[reducible] def k59 : TI := ⟨.struct [(0, 3), (1, 27), (4, 27), (7, 27), (10, 25), (11, 25), (12, 3)], 13, 104, [.int .i64 0, .float .f64 0, .float .f64 0, .float .f64 0, .float .f64 0, .float .f64 0, .float .f64 0, .float .f64 0, .float .f64 0, .float .f64 0, .float .f64 0, .float .f64 0, .int .i64 0]⟩
@[reducible] def k60 : TI := ⟨.struct [(0, 3), (1, 3), (2, 3), (3, 59)], 16, 128, [.int .i64 0, .int .i64 0, .int .i64 0, .int .i64 0, .float .f64 0, .float .f64 0, .float .f64 0, .float .f64 0, .float .f64 0, .float .f64 0, .float .f64 0, .float .f64 0, .float .f64 0, .float .f64 0, .float .f64 0, .int .i64 0]⟩
@[reducible] def k61 : TI := ⟨.struct [(0, 3), (1, 3), (2, 3), (3, 59)], 16, 128, [.int .i64 0, .int .i64 0, .int .i64 0, .int .i64 0, .float .f64 0, .float .f64 0, .float .f64 0, .float .f64 0, .float .f64 0, .float .f64 0, .float .f64 0, .float .f64 0, .float .f64 0, .float .f64 0, .float .f64 0, .int .i64 0]⟩
@[reducible] def k62 : TI := ⟨.fn, 1, 8, [.nilFunc]⟩
@[reducible] def k63 : TI := ⟨.fn, 1, 8, [.nilFunc]⟩
@[reducible] def k64 : TI := ⟨.fn, 1, 8, [.nilFunc]⟩
@[reducible] def k65 : TI := ⟨.fn, 1, 8, [.nilFunc]⟩
@[reducible] def k67 : TI := ⟨.fn, 1, 8, [.nilFunc]⟩
@[reducible] def k68 : TI := ⟨.arr 2 31, 6, 48, [.float .f64 0, .int .i64 0, .bool false, .float .f64 0, .int .i64 0, .bool false]⟩
@[reducible] def k69 : TI := ⟨.fn, 1, 8, [.nilFunc]⟩
@[reducible] def k70 : TI := ⟨.fn, 1, 8, [.nilFunc]⟩
@[reducible] def k71 : TI := ⟨.fn, 1, 8, [.nilFunc]⟩
@[reducible] def k72 : TI := ⟨.fn, 1, 8, [.nilFunc]⟩
@[reducible] def k73 : TI := ⟨.fn, 1, 8, [.nilFunc]⟩
@[reducible] def k74 : TI := ⟨.fn, 1, 8, [.nilFunc]⟩
@[reducible] def k75 : TI := ⟨.fn, 1, 8, [.nilFunc]⟩
@[reducible] def k76 : TI := ⟨.fn, 1, 8, [.nilFunc]⟩
@[reducible] def k77 : TI := ⟨.fn, 1, 8, [.nilFunc]⟩
@[reducible] def k78 : TI := ⟨.sl 33, 1, 24, [.slice none 0 0]⟩
@[reducible] def k79 : TI := ⟨.fn, 1, 8, [.nilFunc]⟩
@[reducible] def k80 : TI := ⟨.fn, 1, 8, [.nilFunc]⟩
@[reducible] def k81 : TI := ⟨.fn, 1, 8, [.nilFunc]⟩
@[reducible] def k82 : TI := ⟨.ifc, 1, 16, [.nilIface]⟩
@[reducible] def k83 : TI := ⟨.ifc, 1, 16, [.nilIface]⟩
@[reducible] def k85 : TI := ⟨.fn, 1, 8, [.nilFunc]⟩
@[reducible] def k86 : TI := ⟨.fn, 1, 8, [.nilFunc]⟩
@[reducible] def k87 : TI := ⟨.fn, 1, 8, [.nilFunc]⟩
@[reducible] def k88 : TI := ⟨.fn, 1, 8, [.nilFunc]⟩
@[reducible] def k89 : TI := ⟨.fn, 1, 8, [.nilFunc]⟩
@[reducible] def k90 : TI := ⟨.fn, 1, 8, [.nilFunc]⟩
@[reducible] def k91 : TI := ⟨.sl 39, 1, 24, [.slice none 0 0]⟩
@[reducible] def k92 : TI := ⟨.fn, 1, 8, [.nilFunc]⟩
@[reducible] def k93 : TI := ⟨.fn, 1, 8, [.nilFunc]⟩
@[reducible] def k94 : TI := ⟨.fn, 1, 8, [.nilFunc]⟩
@[reducible] def k95 : TI := ⟨.fn, 1, 8, [.nilFunc]⟩
@[reducible] def k96 : TI := ⟨.fn, 1, 8, [.nilFunc]⟩
@[reducible] def k98 : TI := ⟨.fn, 1, 8, [.nilFunc]⟩
@[reducible] def k99 : TI := ⟨.struct [(0, 25), (1, 25), (2, 4)], 3, 24, [.float .f64 0, .float .f64 0, .bool false]⟩
@[reducible] def k100 : TI := ⟨.struct [(0, 25), (1, 25), (2, 4)], 3, 24, [.float .f64 0, .float .f64 0, .bool false]⟩
@[reducible] def k101 : TI := ⟨.fn, 1, 8, [.nilFunc]⟩
@[reducible] def k102 : TI := ⟨.fn, 1, 8, [.nilFunc]⟩
@[reducible] def k103 : TI := ⟨.fn, 1, 8, [.nilFunc]⟩
@[reducible] def k104 : TI := ⟨.fn, 1, 8, [.nilFunc]⟩
@[reducible] def k105 : TI := ⟨.fn, 1, 8, [.nilFunc]⟩
@[reducible] def k106 : TI := ⟨.fn, 1, 8, [.nilFunc]⟩
@[reducible] def k107 : TI := ⟨.fn, 1, 8, [.nilFunc]⟩
@[reducible] def k108 : TI := ⟨.struct [(0, 27), (3, 25)], 4, 32, [.float .f64 0, .float .f64 0, .float .f64 0, .float .f64 0]⟩
@[reducible] def k109 : TI := ⟨.struct [(0, 27), (3, 25)], 4, 32, [.float .f64 0, .float .f64 0, .float .f64 0, .float .f64 0]⟩
@[reducible] def k110 : TI := ⟨.struct [(0, 33)], 6, 48, [.float .f64 0, .float .f64 0, .float .f64 0, .float .f64 0, .float .f64 0, .float .f64 0]⟩
@[reducible] def k111 : TI := ⟨.struct [(0, 33)], 6, 48, [.float .f64 0, .float .f64 0, .float .f64 0, .float .f64 0, .float .f64 0, .float .f64 0]⟩
@[reducible] def k112 : TI := ⟨.struct [(0, 27), (3, 27), (6, 27)], 9, 72, [.float .f64 0, .float .f64 0, .float .f64 0, .float .f64 0, .float .f64 0, .float .f64 0, .float .f64 0, .float .f64 0, .float .f64 0]⟩
@[reducible] def k113 : TI := ⟨.struct [(0, 27), (3, 27), (6, 27)], 9, 72, [.float .f64 0, .float .f64 0, .float .f64 0, .float .f64 0, .float .f64 0, .float .f64 0, .float .f64 0, .float .f64 0, .float .f64 0]⟩
@[reducible] def k114 : TI := ⟨.struct [(0, 27), (3, 27), (6, 25)], 7, 56, [.float .f64 0, .float .f64 0, .float .f64 0, .float .f64 0, .float .f64 0, .float .f64 0, .float .f64 0]⟩
@[reducible] def k115 : TI := ⟨.struct [(0, 27), (3, 27), (6, 25)], 7, 56, [.float .f64 0, .float .f64 0, .float .f64 0, .float .f64 0, .float .f64 0, .float .f64 0, .float .f64 0]⟩
@[reducible] def k116 : TI := ⟨.struct [(0, 27), (3, 27), (6, 25)], 7, 56, [.float .f64 0, .float .f64 0, .float .f64 0, .float .f64 0, .float .f64 0, .float .f64 0, .float .f64 0]⟩
@[reducible] def k117 : TI := ⟨.struct [(0, 27), (3, 27), (6, 25)], 7, 56, [.float .f64 0, .float .f64 0, .float .f64 0, .float .f64 0, .float .f64 0, .float .f64 0, .float .f64 0]⟩
@[reducible] def k118 : TI := ⟨.struct [(0, 27), (3, 27), (6, 25), (7, 25)], 8, 64, [.float .f64 0, .float .f64 0, .float .f64 0, .float .f64 0, .float .f64 0, .float .f64 0, .float .f64 0, .float .f64 0]⟩
@[reducible] def k119 : TI := ⟨.struct [(0, 27), (3, 27), (6, 25), (7, 25)], 8, 64, [.float .f64 0, .float .f64 0, .float .f64 0, .float .f64 0, .float .f64 0, .float .f64 0, .float .f64 0, .float .f64 0]⟩
@[reducible] def k120 : TI := ⟨.fn, 1, 8, [.nilFunc]⟩
@[reducible] def k121 : TI := ⟨.fn, 1, 8, [.nilFunc]⟩
@[reducible] def k122 : TI := ⟨.fn, 1, 8, [.nilFunc]⟩
@[reducible] def k123 : TI := ⟨.fn, 1, 8, [.nilFunc]⟩
@[reducible] def k124 : TI := ⟨.fn, 1, 8, [.nilFunc]⟩
@[reducible] def k125 : TI := ⟨.ptr, 1, 8, [.pointer none]⟩
@[reducible] def k126 : TI := ⟨.fn, 1, 8, [.nilFunc]⟩
@[reducible] def k127 : TI := ⟨.fn, 1, 8, [.nilFunc]⟩
@[reducible] def k128 : TI := ⟨.sl 25, 1, 24, [.slice none 0 0]⟩
@[reducible] def k129 : TI := ⟨.fn, 1, 8, [.nilFunc]⟩
@[reducible] def k135 : TI := ⟨.ifc, 1, 16, [.nilIface]⟩
@[reducible] def k136 : TI := ⟨.ifc, 1, 16, [.nilIface]⟩
@[reducible] def k138 : TI := ⟨.fn, 1, 8, [.nilFunc]⟩
@[reducible] def k139 : TI := ⟨.fn, 1, 8, [.nilFunc]⟩
@[reducible] def k140 : TI := ⟨.fn, 1, 8, [.nilFunc]⟩
@[reducible] def k141 : TI := ⟨.int .u64, 1, 8, [.int .u64 0]⟩
@[reducible] def k142 : TI := ⟨.fn, 1, 8, [.nilFunc]⟩
@[reducible] def k143 : TI := ⟨.fn, 1, 8, [.nilFunc]⟩
@[reducible] def k144 : TI := ⟨.struct [(0, 17), (1, 17), (2, 17), (3, 9)], 4, 40, [.pointer none, .pointer none, .pointer none, .string ⟨#[]⟩]⟩
@[reducible] def k145 : TI := ⟨.struct [(0, 17), (1, 17), (2, 17), (3, 9)], 4, 40, [.pointer none, .pointer none, .pointer none, .string ⟨#[]⟩]⟩
@[reducible] def k146 : TI := ⟨.arr 0 16, 0, 0, []⟩
@[reducible] def k147 : TI := ⟨.struct [(0, 146)], 0, 0, []⟩
@[reducible] def k148 : TI := ⟨.struct [(0, 146)], 0, 0, []⟩
@[reducible] def k149 : TI := ⟨.fn, 1, 8, [.nilFunc]⟩
@[reducible] def k150 : TI := ⟨.int .u32, 1, 4, [.int .u32 0]⟩
@[reducible] def k151 : TI := ⟨.int .u8, 1, 1, [.int .u8 0]⟩
@[reducible] def k152 : TI := ⟨.int .u8, 1, 1, [.int .u8 0]⟩
@[reducible] def k153 : TI := ⟨.fn, 1, 8, [.nilFunc]⟩
@[reducible] def k154 : TI := ⟨.ptr, 1, 8, [.pointer none]⟩
@[reducible] def k155 : TI := ⟨.int .i32, 1, 4, [.int .i32 0]⟩
@[reducible] def k156 : TI := ⟨.int .i32, 1, 4, [.int .i32 0]⟩
@[reducible] def k157 : TI := ⟨.struct [(0, 12), (1, 12), (2, 150), (3, 151), (4, 5), (5, 5), (6, 152), (7, 153), (8, 154), (9, 155), (10, 156)], 11, 48, [.int .u64 0, .int .u64 0, .int .u32 0, .int .u8 0, .int .u8 0, .int .u8 0, .int .u8 0, .nilFunc, .pointer none, .int .i32 0, .int .i32 0]⟩
@[reducible] def k158 : TI := ⟨.struct [(0, 12), (1, 12), (2, 150), (3, 151), (4, 5), (5, 5), (6, 152), (7, 153), (8, 154), (9, 155), (10, 156)], 11, 48, [.int .u64 0, .int .u64 0, .int .u32 0, .int .u8 0, .int .u8 0, .int .u8 0, .int .u8 0, .nilFunc, .pointer none, .int .i32 0, .int .i32 0]⟩
@[reducible] def k159 : TI := ⟨.fn, 1, 8, [.nilFunc]⟩
@[reducible] def k160 : TI := ⟨.fn, 1, 8, [.nilFunc]⟩
@[reducible] def k161 : TI := ⟨.arr 6 25, 6, 48, [.float .f64 0, .float .f64 0, .float .f64 0, .float .f64 0, .float .f64 0, .float .f64 0]⟩
@[reducible] def k162 : TI := ⟨.arr 6 27, 18, 144, [.float .f64 0, .float .f64 0, .float .f64 0, .float .f64 0, .float .f64 0, .float .f64 0, .float .f64 0, .float .f64 0, .float .f64 0, .float .f64 0, .float .f64 0, .float .f64 0, .float .f64 0, .float .f64 0, .float .f64 0, .float .f64 0, .float .f64 0, .float .f64 0]⟩
@[reducible] def k163 : TI := ⟨.fn, 1, 8, [.nilFunc]⟩
@[reducible] def k164 : TI := ⟨.fn, 1, 8, [.nilFunc]⟩
@[reducible] def k165 : TI := ⟨.arr 3 25, 3, 24, [.float .f64 0, .float .f64 0, .float .f64 0]⟩
def tree : TT :=
  (.node 82 k82 (.node 41 k41 (.node 20 k20 (.node 10 k10 (.node 5 k5 (.node 3 k3 (.node 2 k2 (.node 1 k1 .nil .nil) .nil) (.node 4 k4 .nil .nil)) (.node 8 k8 (.node 7 k7 (.node 6 k6 .nil .nil) .nil) (.node 9 k9 .nil .nil))) (.node 15 k15 (.node 13 k13 (.node 12 k12 (.node 11 k11 .nil .nil) .nil) (.node 14 k14 .nil .nil)) (.node 18 k18 (.node 17 k17 (.node 16 k16 .nil .nil) .nil) (.node 19 k19 .nil .nil)))) (.node 30 k30 (.node 25 k25 (.node 23 k23 (.node 22 k22 (.node 21 k21 .nil .nil) .nil) (.node 24 k24 .nil .nil)) (.node 28 k28 (.node 27 k27 (.node 26 k26 .nil .nil) .nil) (.node 29 k29 .nil .nil))) (.node 36 k36 (.node 33 k33 (.node 32 k32 (.node 31 k31 .nil .nil) .nil) (.node 34 k34 .nil .nil)) (.node 38 k38 (.node 37 k37 .nil .nil) (.node 39 k39 .nil .nil))))) (.node 62 k62 (.node 53 k53 (.node 48 k48 (.node 44 k44 (.node 43 k43 (.node 42 k42 .nil .nil) .nil) (.node 46 k46 .nil .nil)) (.node 51 k51 (.node 50 k50 (.node 49 k49 .nil .nil) .nil) (.node 52 k52 .nil .nil))) (.node 58 k58 (.node 56 k56 (.node 55 k55 (.node 54 k54 .nil .nil) .nil) (.node 57 k57 .nil .nil)) (.node 60 k60 (.node 59 k59 .nil .nil) (.node 61 k61 .nil .nil)))) (.node 73 k73 (.node 68 k68 (.node 65 k65 (.node 64 k64 (.node 63 k63 .nil .nil) .nil) (.node 67 k67 .nil .nil)) (.node 71 k71 (.node 70 k70 (.node 69 k69 .nil .nil) .nil) (.node 72 k72 .nil .nil))) (.node 78 k78 (.node 76 k76 (.node 75 k75 (.node 74 k74 .nil .nil) .nil) (.node 77 k77 .nil .nil)) (.node 80 k80 (.node 79 k79 .nil .nil) (.node 81 k81 .nil .nil)))))) (.node 122 k122 (.node 103 k103 (.node 93 k93 (.node 88 k88 (.node 86 k86 (.node 85 k85 (.node 83 k83 .nil .nil) .nil) (.node 87 k87 .nil .nil)) (.node 91 k91 (.node 90 k90 (.node 89 k89 .nil .nil) .nil) (.node 92 k92 .nil .nil))) (.node 99 k99 (.node 96 k96 (.node 95 k95 (.node 94 k94 .nil .nil) .nil) (.node 98 k98 .nil .nil)) (.node 101 k101 (.node 100 k100 .nil .nil) (.node 102 k102 .nil .nil)))) (.node 113 k113 (.node 108 k108 (.node 106 k106 (.node 105 k105 (.node 104 k104 .nil .nil) .nil) (.node 107 k107 .nil .nil)) (.node 111 k111 (.node 110 k110 (.node 109 k109 .nil .nil) .nil) (.node 112 k112 .nil .nil))) (.node 118 k118 (.node 116 k116 (.node 115 k115 (.node 114 k114 .nil .nil) .nil) (.node 117 k117 .nil .nil)) (.node 120 k120 (.node 119 k119 .nil .nil) (.node 121 k121 .nil .nil))))) (.node 147 k147 (.node 138 k138 (.node 127 k127 (.node 125 k125 (.node 124 k124 (.node 123 k123 .nil .nil) .nil) (.node 126 k126 .nil .nil)) (.node 135 k135 (.node 129 k129 (.node 128 k128 .nil .nil) .nil) (.node 136 k136 .nil .nil))) (.node 143 k143 (.node 141 k141 (.node 140 k140 (.node 139 k139 .nil .nil) .nil) (.node 142 k142 .nil .nil)) (.node 145 k145 (.node 144 k144 .nil .nil) (.node 146 k146 .nil .nil)))) (.node 157 k157 (.node 152 k152 (.node 150 k150 (.node 149 k149 (.node 148 k148 .nil .nil) .nil) (.node 151 k151 .nil .nil)) (.node 155 k155 (.node 154 k154 (.node 153 k153 .nil .nil) .nil) (.node 156 k156 .nil .nil))) (.node 162 k162 (.node 160 k160 (.node 159 k159 (.node 158 k158 .nil .nil) .nil) (.node 161 k161 .nil .nil)) (.node 164 k164 (.node 163 k163 .nil .nil) (.node 165 k165 .nil .nil)))))))
def eqs : ET :=
  .node 27 [.flt, .flt, .flt] (.node 29 [.flt, .flt, .flt, .flt, .flt, .flt, .flt] (.node 31 [.flt, .int .i64, .bool] (.node 33 [.flt, .flt, .flt, .flt, .flt, .flt] (.node 44 [.flt, .int .i64, .bool, .flt, .int .i64, .bool] (.node 59 [.int .i64, .flt, .flt, .flt, .flt, .flt, .flt, .flt, .flt, .flt, .flt, .flt, .int .i64] (.node 61 [.int .i64, .int .i64, .int .i64, .int .i64, .flt, .flt, .flt, .flt, .flt, .flt, .flt, .flt, .flt, .flt, .flt, .int .i64] (.node 68 [.flt, .int .i64, .bool, .flt, .int .i64, .bool] (.node 100 [.flt, .flt, .bool] (.node 109 [.flt, .flt, .flt, .flt] (.node 111 [.flt, .flt, .flt, .flt, .flt, .flt] (.node 113 [.flt, .flt, .flt, .flt, .flt, .flt, .flt, .flt, .flt] (.node 115 [.flt, .flt, .flt, .flt, .flt, .flt, .flt] (.node 117 [.flt, .flt, .flt, .flt, .flt, .flt, .flt] (.node 119 [.flt, .flt, .flt, .flt, .flt, .flt, .flt, .flt] (.node 161 [.flt, .flt, .flt, .flt, .flt, .flt] (.node 162 [.flt, .flt, .flt, .flt, .flt, .flt, .flt, .flt, .flt, .flt, .flt, .flt, .flt, .flt, .flt, .flt, .flt, .flt] (.node 165 [.flt, .flt, .flt] (.nil))))))))))))))))))
def mts : MT :=
  .node 109 "rayhouse/shape.bounds" 124 (.node 109 "rayhouse/shape.normal" 125 (.node 109 "rayhouse/shape.strike" 126 (.node 109 "rayhouse/shape.within" 127 (.node 111 "rayhouse/shape.bounds" 132 (.node 111 "rayhouse/shape.normal" 133 (.node 111 "rayhouse/shape.strike" 134 (.node 111 "rayhouse/shape.within" 135 (.node 113 "rayhouse/shape.bounds" 136 (.node 113 "rayhouse/shape.normal" 137 (.node 113 "rayhouse/shape.strike" 138 (.node 115 "rayhouse/shape.bounds" 140 (.node 115 "rayhouse/shape.normal" 141 (.node 115 "rayhouse/shape.strike" 142 (.node 117 "rayhouse/shape.bounds" 143 (.node 117 "rayhouse/shape.normal" 144 (.node 117 "rayhouse/shape.strike" 145 (.node 117 "rayhouse/shape.within" 146 (.node 119 "rayhouse/shape.bounds" 150 (.node 119 "rayhouse/shape.normal" 151 (.node 119 "rayhouse/shape.strike" 152 (.nil)))))))))))))))))))))
def ims : IT :=
  .node 82 109 (.node 82 111 (.node 82 113 (.node 82 115 (.node 82 117 (.node 82 119 (.node 83 109 (.node 83 111 (.node 83 113 (.node 83 115 (.node 83 117 (.node 83 119 (.node 135 109 (.node 135 111 (.node 135 117 (.node 136 109 (.node 136 111 (.node 136 117 (.nil))))))))))))))))))
theorem ims_ok : ims.okB Tryz.prog = true := by kernel_rfl
def cx : Cx := ⟨tree.get, eqs.get, mts.get, ims.get⟩
theorem mts_ok : mts.okB Tryz.prog = true := by kernel_rfl
theorem eqs_ok : eqs.okB Tryz.prog = true := by kernel_rfl
theorem tree_ok : tree.okB Tryz.prog = true := by kernel_rfl
theorem cx_ok : cx.ok Tryz.prog := ⟨TT.ok tree tree_ok, ET.ok eqs eqs_ok, MT.ok mts mts_ok, IT.ok ims ims_ok⟩
theorem s1 : (cx.ti 1).size = 1 := rfl
theorem b1 : (cx.ti 1).bytes = 8 := rfl
theorem s2 : (cx.ti 2).size = 1 := rfl
theorem b2 : (cx.ti 2).bytes = 8 := rfl
theorem s3 : (cx.ti 3).size = 1 := rfl
theorem b3 : (cx.ti 3).bytes = 8 := rfl
theorem s4 : (cx.ti 4).size = 1 := rfl
theorem b4 : (cx.ti 4).bytes = 1 := rfl
theorem s5 : (cx.ti 5).size = 1 := rfl
theorem b5 : (cx.ti 5).bytes = 1 := rfl
theorem s6 : (cx.ti 6).size = 1 := rfl
theorem b6 : (cx.ti 6).bytes = 1 := rfl
theorem s7 : (cx.ti 7).size = 4 := rfl
theorem b7 : (cx.ti 7).bytes = 24 := rfl
theorem s8 : (cx.ti 8).size = 4 := rfl
theorem b8 : (cx.ti 8).bytes = 24 := rfl
theorem s9 : (cx.ti 9).size = 1 := rfl
theorem b9 : (cx.ti 9).bytes = 16 := rfl
theorem s10 : (cx.ti 10).size = 1 := rfl
theorem b10 : (cx.ti 10).bytes = 16 := rfl
theorem s11 : (cx.ti 11).size = 1 := rfl
theorem b11 : (cx.ti 11).bytes = 16 := rfl
theorem s12 : (cx.ti 12).size = 1 := rfl
theorem b12 : (cx.ti 12).bytes = 8 := rfl
theorem s13 : (cx.ti 13).size = 2 := rfl
theorem b13 : (cx.ti 13).bytes = 24 := rfl
theorem s14 : (cx.ti 14).size = 2 := rfl
theorem b14 : (cx.ti 14).bytes = 24 := rfl
theorem s15 : (cx.ti 15).size = 1 := rfl
theorem b15 : (cx.ti 15).bytes = 8 := rfl
theorem s16 : (cx.ti 16).size = 1 := rfl
theorem b16 : (cx.ti 16).bytes = 8 := rfl
theorem s17 : (cx.ti 17).size = 1 := rfl
theorem b17 : (cx.ti 17).bytes = 8 := rfl
theorem s18 : (cx.ti 18).size = 1 := rfl
theorem b18 : (cx.ti 18).bytes = 8 := rfl
theorem s19 : (cx.ti 19).size = 1 := rfl
theorem b19 : (cx.ti 19).bytes = 8 := rfl
theorem s20 : (cx.ti 20).size = 1 := rfl
theorem b20 : (cx.ti 20).bytes = 16 := rfl
theorem s21 : (cx.ti 21).size = 1 := rfl
theorem b21 : (cx.ti 21).bytes = 4 := rfl
theorem s22 : (cx.ti 22).size = 1 := rfl
theorem b22 : (cx.ti 22).bytes = 24 := rfl
theorem s23 : (cx.ti 23).size = 2 := rfl
theorem b23 : (cx.ti 23).bytes = 32 := rfl
theorem s24 : (cx.ti 24).size = 2 := rfl
theorem b24 : (cx.ti 24).bytes = 32 := rfl
theorem s25 : (cx.ti 25).size = 1 := rfl
theorem b25 : (cx.ti 25).bytes = 8 := rfl
theorem s26 : (cx.ti 26).size = 3 := rfl
theorem b26 : (cx.ti 26).bytes = 24 := rfl
theorem s27 : (cx.ti 27).size = 3 := rfl
theorem b27 : (cx.ti 27).bytes = 24 := rfl
theorem s28 : (cx.ti 28).size = 7 := rfl
theorem b28 : (cx.ti 28).bytes = 56 := rfl
theorem s29 : (cx.ti 29).size = 7 := rfl
theorem b29 : (cx.ti 29).bytes = 56 := rfl
theorem s30 : (cx.ti 30).size = 3 := rfl
theorem b30 : (cx.ti 30).bytes = 24 := rfl
theorem s31 : (cx.ti 31).size = 3 := rfl
theorem b31 : (cx.ti 31).bytes = 24 := rfl
theorem s32 : (cx.ti 32).size = 6 := rfl
theorem b32 : (cx.ti 32).bytes = 48 := rfl
theorem s33 : (cx.ti 33).size = 6 := rfl
theorem b33 : (cx.ti 33).bytes = 48 := rfl
theorem s34 : (cx.ti 34).size = 1 := rfl
theorem b34 : (cx.ti 34).bytes = 8 := rfl
theorem s36 : (cx.ti 36).size = 1 := rfl
theorem b36 : (cx.ti 36).bytes = 8 := rfl
theorem s37 : (cx.ti 37).size = 1 := rfl
theorem b37 : (cx.ti 37).bytes = 8 := rfl
theorem s38 : (cx.ti 38).size = 1 := rfl
theorem b38 : (cx.ti 38).bytes = 8 := rfl
theorem s39 : (cx.ti 39).size = 1 := rfl
theorem b39 : (cx.ti 39).bytes = 24 := rfl
theorem s41 : (cx.ti 41).size = 1 := rfl
theorem b41 : (cx.ti 41).bytes = 8 := rfl
theorem s42 : (cx.ti 42).size = 1 := rfl
theorem b42 : (cx.ti 42).bytes = 8 := rfl
theorem s43 : (cx.ti 43).size = 6 := rfl
theorem b43 : (cx.ti 43).bytes = 48 := rfl
theorem s44 : (cx.ti 44).size = 6 := rfl
theorem b44 : (cx.ti 44).bytes = 48 := rfl
theorem s46 : (cx.ti 46).size = 1 := rfl
theorem b46 : (cx.ti 46).bytes = 8 := rfl
theorem s48 : (cx.ti 48).size = 1 := rfl
theorem b48 : (cx.ti 48).bytes = 8 := rfl
theorem s49 : (cx.ti 49).size = 1 := rfl
theorem b49 : (cx.ti 49).bytes = 8 := rfl
theorem s50 : (cx.ti 50).size = 1 := rfl
theorem b50 : (cx.ti 50).bytes = 8 := rfl
theorem s51 : (cx.ti 51).size = 1 := rfl
theorem b51 : (cx.ti 51).bytes = 24 := rfl
theorem s52 : (cx.ti 52).size = 1 := rfl
theorem b52 : (cx.ti 52).bytes = 8 := rfl
theorem s53 : (cx.ti 53).size = 1 := rfl
theorem b53 : (cx.ti 53).bytes = 8 := rfl
theorem s54 : (cx.ti 54).size = 1 := rfl
theorem b54 : (cx.ti 54).bytes = 8 := rfl
theorem s55 : (cx.ti 55).size = 1 := rfl
theorem b55 : (cx.ti 55).bytes = 8 := rfl
theorem s56 : (cx.ti 56).size = 1 := rfl
theorem b56 : (cx.ti 56).bytes = 8 := rfl
theorem s57 : (cx.ti 57).size = 1 := rfl
theorem b57 : (cx.ti 57).bytes = 8 := rfl
theorem s58 : (cx.ti 58).size = 13 := rfl
theorem b58 : (cx.ti 58).bytes = 104 := rfl
theorem s59 : (cx.ti 59).size = 13 := rfl
theorem b59 : (cx.ti 59).bytes = 104 := rfl
theorem s60 : (cx.ti 60).size = 16 := rfl
theorem b60 : (cx.ti 60).bytes = 128 := rfl
theorem s61 : (cx.ti 61).size = 16 := rfl
theorem b61 : (cx.ti 61).bytes = 128 := rfl
theorem s62 : (cx.ti 62).size = 1 := rfl
theorem b62 : (cx.ti 62).bytes = 8 := rfl
theorem s63 : (cx.ti 63).size = 1 := rfl
theorem b63 : (cx.ti 63).bytes = 8 := rfl
theorem s64 : (cx.ti 64).size = 1 := rfl
theorem b64 : (cx.ti 64).bytes = 8 := rfl
theorem s65 : (cx.ti 65).size = 1 := rfl
theorem b65 : (cx.ti 65).bytes = 8 := rfl
theorem s67 : (cx.ti 67).size = 1 := rfl
theorem b67 : (cx.ti 67).bytes = 8 := rfl
theorem s68 : (cx.ti 68).size = 6 := rfl
theorem b68 : (cx.ti 68).bytes = 48 := rfl
theorem s69 : (cx.ti 69).size = 1 := rfl
theorem b69 : (cx.ti 69).bytes = 8 := rfl
theorem s70 : (cx.ti 70).size = 1 := rfl
theorem b70 : (cx.ti 70).bytes = 8 := rfl
theorem s71 : (cx.ti 71).size = 1 := rfl
theorem b71 : (cx.ti 71).bytes = 8 := rfl
theorem s72 : (cx.ti 72).size = 1 := rfl
theorem b72 : (cx.ti 72).bytes = 8 := rfl
theorem s73 : (cx.ti 73).size = 1 := rfl
theorem b73 : (cx.ti 73).bytes = 8 := rfl
theorem s74 : (cx.ti 74).size = 1 := rfl
theorem b74 : (cx.ti 74).bytes = 8 := rfl
theorem s75 : (cx.ti 75).size = 1 := rfl
theorem b75 : (cx.ti 75).bytes = 8 := rfl
theorem s76 : (cx.ti 76).size = 1 := rfl
theorem b76 : (cx.ti 76).bytes = 8 := rfl
theorem s77 : (cx.ti 77).size = 1 := rfl
theorem b77 : (cx.ti 77).bytes = 8 := rfl
theorem s78 : (cx.ti 78).size = 1 := rfl
theorem b78 : (cx.ti 78).bytes = 24 := rfl
theorem s79 : (cx.ti 79).size = 1 := rfl
theorem b79 : (cx.ti 79).bytes = 8 := rfl
theorem s80 : (cx.ti 80).size = 1 := rfl
theorem b80 : (cx.ti 80).bytes = 8 := rfl
theorem s81 : (cx.ti 81).size = 1 := rfl
theorem b81 : (cx.ti 81).bytes = 8 := rfl
theorem s82 : (cx.ti 82).size = 1 := rfl
theorem b82 : (cx.ti 82).bytes = 16 := rfl
theorem s83 : (cx.ti 83).size = 1 := rfl
theorem b83 : (cx.ti 83).bytes = 16 := rfl
theorem s85 : (cx.ti 85).size = 1 := rfl
theorem b85 : (cx.ti 85).bytes = 8 := rfl
theorem s86 : (cx.ti 86).size = 1 := rfl
theorem b86 : (cx.ti 86).bytes = 8 := rfl
theorem s87 : (cx.ti 87).size = 1 := rfl
theorem b87 : (cx.ti 87).bytes = 8 := rfl
theorem s88 : (cx.ti 88).size = 1 := rfl
theorem b88 : (cx.ti 88).bytes = 8 := rfl
theorem s89 : (cx.ti 89).size = 1 := rfl
theorem b89 : (cx.ti 89).bytes = 8 := rfl
theorem s90 : (cx.ti 90).size = 1 := rfl
theorem b90 : (cx.ti 90).bytes = 8 := rfl
theorem s91 : (cx.ti 91).size = 1 := rfl
theorem b91 : (cx.ti 91).bytes = 24 := rfl
theorem s92 : (cx.ti 92).size = 1 := rfl
theorem b92 : (cx.ti 92).bytes = 8 := rfl
theorem s93 : (cx.ti 93).size = 1 := rfl
theorem b93 : (cx.ti 93).bytes = 8 := rfl
theorem s94 : (cx.ti 94).size = 1 := rfl
theorem b94 : (cx.ti 94).bytes = 8 := rfl
theorem s95 : (cx.ti 95).size = 1 := rfl
theorem b95 : (cx.ti 95).bytes = 8 := rfl
theorem s96 : (cx.ti 96).size = 1 := rfl
theorem b96 : (cx.ti 96).bytes = 8 := rfl
theorem s98 : (cx.ti 98).size = 1 := rfl
theorem b98 : (cx.ti 98).bytes = 8 := rfl
theorem s99 : (cx.ti 99).size = 3 := rfl
theorem b99 : (cx.ti 99).bytes = 24 := rfl
theorem s100 : (cx.ti 100).size = 3 := rfl
theorem b100 : (cx.ti 100).bytes = 24 := rfl
theorem s101 : (cx.ti 101).size = 1 := rfl
theorem b101 : (cx.ti 101).bytes = 8 := rfl
theorem s102 : (cx.ti 102).size = 1 := rfl
theorem b102 : (cx.ti 102).bytes = 8 := rfl
theorem s103 : (cx.ti 103).size = 1 := rfl
theorem b103 : (cx.ti 103).bytes = 8 := rfl
theorem s104 : (cx.ti 104).size = 1 := rfl
theorem b104 : (cx.ti 104).bytes = 8 := rfl
theorem s105 : (cx.ti 105).size = 1 := rfl
theorem b105 : (cx.ti 105).bytes = 8 := rfl
theorem s106 : (cx.ti 106).size = 1 := rfl
theorem b106 : (cx.ti 106).bytes = 8 := rfl
theorem s107 : (cx.ti 107).size = 1 := rfl
theorem b107 : (cx.ti 107).bytes = 8 := rfl
theorem s108 : (cx.ti 108).size = 4 := rfl
theorem b108 : (cx.ti 108).bytes = 32 := rfl
theorem s109 : (cx.ti 109).size = 4 := rfl
theorem b109 : (cx.ti 109).bytes = 32 := rfl
theorem s110 : (cx.ti 110).size = 6 := rfl
theorem b110 : (cx.ti 110).bytes = 48 := rfl
theorem s111 : (cx.ti 111).size = 6 := rfl
theorem b111 : (cx.ti 111).bytes = 48 := rfl
theorem s112 : (cx.ti 112).size = 9 := rfl
theorem b112 : (cx.ti 112).bytes = 72 := rfl
theorem s113 : (cx.ti 113).size = 9 := rfl
theorem b113 : (cx.ti 113).bytes = 72 := rfl
theorem s114 : (cx.ti 114).size = 7 := rfl
theorem b114 : (cx.ti 114).bytes = 56 := rfl
theorem s115 : (cx.ti 115).size = 7 := rfl
theorem b115 : (cx.ti 115).bytes = 56 := rfl
theorem s116 : (cx.ti 116).size = 7 := rfl
theorem b116 : (cx.ti 116).bytes = 56 := rfl
theorem s117 : (cx.ti 117).size = 7 := rfl
theorem b117 : (cx.ti 117).bytes = 56 := rfl
theorem s118 : (cx.ti 118).size = 8 := rfl
theorem b118 : (cx.ti 118).bytes = 64 := rfl
theorem s119 : (cx.ti 119).size = 8 := rfl
theorem b119 : (cx.ti 119).bytes = 64 := rfl
theorem s120 : (cx.ti 120).size = 1 := rfl
theorem b120 : (cx.ti 120).bytes = 8 := rfl
theorem s121 : (cx.ti 121).size = 1 := rfl
theorem b121 : (cx.ti 121).bytes = 8 := rfl
theorem s122 : (cx.ti 122).size = 1 := rfl
theorem b122 : (cx.ti 122).bytes = 8 := rfl
theorem s123 : (cx.ti 123).size = 1 := rfl
theorem b123 : (cx.ti 123).bytes = 8 := rfl
theorem s124 : (cx.ti 124).size = 1 := rfl
theorem b124 : (cx.ti 124).bytes = 8 := rfl
theorem s125 : (cx.ti 125).size = 1 := rfl
theorem b125 : (cx.ti 125).bytes = 8 := rfl
theorem s126 : (cx.ti 126).size = 1 := rfl
theorem b126 : (cx.ti 126).bytes = 8 := rfl
theorem s127 : (cx.ti 127).size = 1 := rfl
theorem b127 : (cx.ti 127).bytes = 8 := rfl
theorem s128 : (cx.ti 128).size = 1 := rfl
theorem b128 : (cx.ti 128).bytes = 24 := rfl
theorem s129 : (cx.ti 129).size = 1 := rfl
theorem b129 : (cx.ti 129).bytes = 8 := rfl
theorem s135 : (cx.ti 135).size = 1 := rfl
theorem b135 : (cx.ti 135).bytes = 16 := rfl
theorem s136 : (cx.ti 136).size = 1 := rfl
theorem b136 : (cx.ti 136).bytes = 16 := rfl
theorem s138 : (cx.ti 138).size = 1 := rfl
theorem b138 : (cx.ti 138).bytes = 8 := rfl
theorem s139 : (cx.ti 139).size = 1 := rfl
theorem b139 : (cx.ti 139).bytes = 8 := rfl
theorem s140 : (cx.ti 140).size = 1 := rfl
theorem b140 : (cx.ti 140).bytes = 8 := rfl
theorem s141 : (cx.ti 141).size = 1 := rfl
theorem b141 : (cx.ti 141).bytes = 8 := rfl
theorem s142 : (cx.ti 142).size = 1 := rfl
theorem b142 : (cx.ti 142).bytes = 8 := rfl
theorem s143 : (cx.ti 143).size = 1 := rfl
theorem b143 : (cx.ti 143).bytes = 8 := rfl
theorem s144 : (cx.ti 144).size = 4 := rfl
theorem b144 : (cx.ti 144).bytes = 40 := rfl
theorem s145 : (cx.ti 145).size = 4 := rfl
theorem b145 : (cx.ti 145).bytes = 40 := rfl
theorem s146 : (cx.ti 146).size = 0 := rfl
theorem b146 : (cx.ti 146).bytes = 0 := rfl
theorem s147 : (cx.ti 147).size = 0 := rfl
theorem b147 : (cx.ti 147).bytes = 0 := rfl
theorem s148 : (cx.ti 148).size = 0 := rfl
theorem b148 : (cx.ti 148).bytes = 0 := rfl
theorem s149 : (cx.ti 149).size = 1 := rfl
theorem b149 : (cx.ti 149).bytes = 8 := rfl
theorem s150 : (cx.ti 150).size = 1 := rfl
theorem b150 : (cx.ti 150).bytes = 4 := rfl
theorem s151 : (cx.ti 151).size = 1 := rfl
theorem b151 : (cx.ti 151).bytes = 1 := rfl
theorem s152 : (cx.ti 152).size = 1 := rfl
theorem b152 : (cx.ti 152).bytes = 1 := rfl
theorem s153 : (cx.ti 153).size = 1 := rfl
theorem b153 : (cx.ti 153).bytes = 8 := rfl
theorem s154 : (cx.ti 154).size = 1 := rfl
theorem b154 : (cx.ti 154).bytes = 8 := rfl
theorem s155 : (cx.ti 155).size = 1 := rfl
theorem b155 : (cx.ti 155).bytes = 4 := rfl
theorem s156 : (cx.ti 156).size = 1 := rfl
theorem b156 : (cx.ti 156).bytes = 4 := rfl
theorem s157 : (cx.ti 157).size = 11 := rfl
theorem b157 : (cx.ti 157).bytes = 48 := rfl
theorem s158 : (cx.ti 158).size = 11 := rfl
theorem b158 : (cx.ti 158).bytes = 48 := rfl
theorem s159 : (cx.ti 159).size = 1 := rfl
theorem b159 : (cx.ti 159).bytes = 8 := rfl
theorem s160 : (cx.ti 160).size = 1 := rfl
theorem b160 : (cx.ti 160).bytes = 8 := rfl
theorem s161 : (cx.ti 161).size = 6 := rfl
theorem b161 : (cx.ti 161).bytes = 48 := rfl
theorem s162 : (cx.ti 162).size = 18 := rfl
theorem b162 : (cx.ti 162).bytes = 144 := rfl
theorem s163 : (cx.ti 163).size = 1 := rfl
theorem b163 : (cx.ti 163).bytes = 8 := rfl
theorem s164 : (cx.ti 164).size = 1 := rfl
theorem b164 : (cx.ti 164).bytes = 8 := rfl
theorem s165 : (cx.ti 165).size = 3 := rfl
theorem b165 : (cx.ti 165).bytes = 24 := rfl
end Tab
end Go.Proofs.YtgbcnfcgljbbgaaGreat
