/- The table of types of this seat's program; printed by a program. -/
import Derived.Test.YtdjckabogdohcaaGreatEvTab
import Derived.Test.YtdjckabogdohcaaGreatProg
namespace Go.Proofs.YtdjckabogdohcaaGreat
open Go.RowKit
namespace Tab
open Ev
@[reducible] def k1 : TI := ⟨.fn, 1, 8, [.nilFunc]⟩
@[reducible] def k2 : TI := ⟨.int .i64, 1, 8, [.int .i64 0]⟩
@[reducible] def k3 : TI := ⟨.int .i64, 1, 8, [.int .i64 0]⟩
@[reducible] def k4 : TI := ⟨.bool, 1, 1, [.bool false]⟩
@[reducible] def k5 : TI := ⟨.int .u8, 1, 1, [.int .u8 0]⟩
@[reducible] def k6 : TI := ⟨.int .u8, 1, 1, [.int .u8 0]⟩
@[reducible] def k7 : TI := ⟨.struct [(0, 2), (1, 3), (2, 4), (3, 6)], 4, 24, [.int .i64 0, .int .i64 0, .bool false, .int .u8 0]⟩
@[reducible] def k8 : TI := ⟨.struct [(0, 2), (1, 3), (2, 4), (3, 6)], 4, 24, [.int .i64 0, .int .i64 0, .bool false, .int .u8 0]⟩
@[reducible] def k9 : TI := ⟨.str, 1, 16, [.string ⟨#[]⟩]⟩
@[reducible] def k10 : TI := ⟨.str, 1, 16, [.string ⟨#[]⟩]⟩
@[reducible] def k11 : TI := ⟨.str, 1, 16, [.string ⟨#[]⟩]⟩
@[reducible] def k12 : TI := ⟨.int .u64, 1, 8, [.int .u64 0]⟩
@[reducible] def k13 : TI := ⟨.struct [(0, 9), (1, 12)], 2, 24, [.string ⟨#[]⟩, .int .u64 0]⟩
@[reducible] def k14 : TI := ⟨.struct [(0, 9), (1, 12)], 2, 24, [.string ⟨#[]⟩, .int .u64 0]⟩
@[reducible] def k15 : TI := ⟨.ptr, 1, 8, [.pointer none]⟩
@[reducible] def k16 : TI := ⟨.ptr, 1, 8, [.pointer none]⟩
@[reducible] def k17 : TI := ⟨.ptr, 1, 8, [.pointer none]⟩
@[reducible] def k18 : TI := ⟨.struct [(0, 17)], 1, 8, [.pointer none]⟩
@[reducible] def k19 : TI := ⟨.struct [(0, 17)], 1, 8, [.pointer none]⟩
@[reducible] def k20 : TI := ⟨.ifc, 1, 16, [.nilIface]⟩
@[reducible] def k21 : TI := ⟨.int .i32, 1, 4, [.int .i32 0]⟩
@[reducible] def k22 : TI := ⟨.flt, 1, 8, [.float .f64 0]⟩
@[reducible] def k23 : TI := ⟨.struct [(0, 22), (1, 22), (2, 22)], 3, 24, [.float .f64 0, .float .f64 0, .float .f64 0]⟩
@[reducible] def k24 : TI := ⟨.struct [(0, 22), (1, 22), (2, 22)], 3, 24, [.float .f64 0, .float .f64 0, .float .f64 0]⟩
@[reducible] def k25 : TI := ⟨.struct [(0, 24), (3, 24), (6, 22)], 7, 56, [.float .f64 0, .float .f64 0, .float .f64 0, .float .f64 0, .float .f64 0, .float .f64 0, .float .f64 0]⟩
@[reducible] def k26 : TI := ⟨.struct [(0, 24), (3, 24), (6, 22)], 7, 56, [.float .f64 0, .float .f64 0, .float .f64 0, .float .f64 0, .float .f64 0, .float .f64 0, .float .f64 0]⟩
@[reducible] def k27 : TI := ⟨.fn, 1, 8, [.nilFunc]⟩
@[reducible] def k28 : TI := ⟨.int .i64, 1, 8, [.int .i64 0]⟩
@[reducible] def k30 : TI := ⟨.fn, 1, 8, [.nilFunc]⟩
@[reducible] def k32 : TI := ⟨.fn, 1, 8, [.nilFunc]⟩
@[reducible] def k33 : TI := ⟨.fn, 1, 8, [.nilFunc]⟩
@[reducible] def k34 : TI := ⟨.sl 3, 1, 24, [.slice none 0 0]⟩
@[reducible] def k35 : TI := ⟨.sl 22, 1, 24, [.slice none 0 0]⟩
@[reducible] def k36 : TI := ⟨.fn, 1, 8, [.nilFunc]⟩
@[reducible] def k37 : TI := ⟨.struct [(0, 3), (1, 24), (4, 24), (7, 24), (10, 22), (11, 22), (12, 3)], 13, 104, [.int .i64 0, .float .f64 0, .float .f64 0, .float .f64 0, .float .f64 0, .float .f64 0, .float .f64 0, .float .f64 0, .float .f64 0, .float .f64 0, .float .f64 0, .float .f64 0, .int .i64 0]⟩
@[reducible] def k38 : TI := ⟨.struct [(0, 3), (1, 24), (4, 24), (7, 24), (10, 22), (11, 22), (12, 3)], 13, 104, [.int .i64 0, .float .f64 0, .float .f64 0, .float .f64 0, .float .f64 0, .float .f64 0, .float .f64 0, .float .f64 0, .float .f64 0, .float .f64 0, .float .f64 0, .float .f64 0, .int .i64 0]⟩
@[reducible] def k39 : TI := ⟨.fn, 1, 8, [.nilFunc]⟩
@[reducible] def k40 : TI := ⟨.fn, 1, 8, [.nilFunc]⟩
@[reducible] def k41 : TI := ⟨.fn, 1, 8, [.nilFunc]⟩
@[reducible] def k43 : TI := ⟨.fn, 1, 8, [.nilFunc]⟩
@[reducible] def k44 : TI := ⟨.fn, 1, 8, [.nilFunc]⟩
@[reducible] def k45 : TI := ⟨.fn, 1, 8, [.nilFunc]⟩
@[reducible] def k46 : TI := ⟨.arr 3 24, 9, 72, [.float .f64 0, .float .f64 0, .float .f64 0, .float .f64 0, .float .f64 0, .float .f64 0, .float .f64 0, .float .f64 0, .float .f64 0]⟩
@[reducible] def k47 : TI := ⟨.struct [(0, 46), (9, 24)], 12, 96, [.float .f64 0, .float .f64 0, .float .f64 0, .float .f64 0, .float .f64 0, .float .f64 0, .float .f64 0, .float .f64 0, .float .f64 0, .float .f64 0, .float .f64 0, .float .f64 0]⟩
@[reducible] def k48 : TI := ⟨.struct [(0, 46), (9, 24)], 12, 96, [.float .f64 0, .float .f64 0, .float .f64 0, .float .f64 0, .float .f64 0, .float .f64 0, .float .f64 0, .float .f64 0, .float .f64 0, .float .f64 0, .float .f64 0, .float .f64 0]⟩
@[reducible] def k50 : TI := ⟨.fn, 1, 8, [.nilFunc]⟩
@[reducible] def k51 : TI := ⟨.fn, 1, 8, [.nilFunc]⟩
@[reducible] def k52 : TI := ⟨.fn, 1, 8, [.nilFunc]⟩
@[reducible] def k53 : TI := ⟨.struct [(0, 24), (3, 24)], 6, 48, [.float .f64 0, .float .f64 0, .float .f64 0, .float .f64 0, .float .f64 0, .float .f64 0]⟩
@[reducible] def k54 : TI := ⟨.struct [(0, 24), (3, 24)], 6, 48, [.float .f64 0, .float .f64 0, .float .f64 0, .float .f64 0, .float .f64 0, .float .f64 0]⟩
@[reducible] def k56 : TI := ⟨.fn, 1, 8, [.nilFunc]⟩
@[reducible] def k57 : TI := ⟨.fn, 1, 8, [.nilFunc]⟩
@[reducible] def k58 : TI := ⟨.fn, 1, 8, [.nilFunc]⟩
@[reducible] def k59 : TI := ⟨.fn, 1, 8, [.nilFunc]⟩
@[reducible] def k60 : TI := ⟨.struct [(0, 3), (1, 3), (2, 24), (5, 22), (6, 34), (7, 3)], 8, 80, [.int .i64 0, .int .i64 0, .float .f64 0, .float .f64 0, .float .f64 0, .float .f64 0, .slice none 0 0, .int .i64 0]⟩
@[reducible] def k61 : TI := ⟨.struct [(0, 3), (1, 3), (2, 24), (5, 22), (6, 34), (7, 3)], 8, 80, [.int .i64 0, .int .i64 0, .float .f64 0, .float .f64 0, .float .f64 0, .float .f64 0, .slice none 0 0, .int .i64 0]⟩
@[reducible] def k63 : TI := ⟨.fn, 1, 8, [.nilFunc]⟩
@[reducible] def k64 : TI := ⟨.fn, 1, 8, [.nilFunc]⟩
@[reducible] def k65 : TI := ⟨.fn, 1, 8, [.nilFunc]⟩
@[reducible] def k66 : TI := ⟨.sl 38, 1, 24, [.slice none 0 0]⟩
@[reducible] def k68 : TI := ⟨.fn, 1, 8, [.nilFunc]⟩
@[reducible] def k70 : TI := ⟨.fn, 1, 8, [.nilFunc]⟩
@[reducible] def k71 : TI := ⟨.fn, 1, 8, [.nilFunc]⟩
@[reducible] def k72 : TI := ⟨.fn, 1, 8, [.nilFunc]⟩
@[reducible] def k73 : TI := ⟨.fn, 1, 8, [.nilFunc]⟩
@[reducible] def k74 : TI := ⟨.fn, 1, 8, [.nilFunc]⟩
@[reducible] def k75 : TI := ⟨.struct [(0, 24), (3, 3), (4, 3), (5, 3), (6, 22), (7, 22), (8, 22)], 9, 72, [.float .f64 0, .float .f64 0, .float .f64 0, .int .i64 0, .int .i64 0, .int .i64 0, .float .f64 0, .float .f64 0, .float .f64 0]⟩
@[reducible] def k76 : TI := ⟨.struct [(0, 24), (3, 3), (4, 3), (5, 3), (6, 22), (7, 22), (8, 22)], 9, 72, [.float .f64 0, .float .f64 0, .float .f64 0, .int .i64 0, .int .i64 0, .int .i64 0, .float .f64 0, .float .f64 0, .float .f64 0]⟩
@[reducible] def k77 : TI := ⟨.fn, 1, 8, [.nilFunc]⟩
@[reducible] def k78 : TI := ⟨.fn, 1, 8, [.nilFunc]⟩
@[reducible] def k80 : TI := ⟨.fn, 1, 8, [.nilFunc]⟩
@[reducible] def k81 : TI := ⟨.fn, 1, 8, [.nilFunc]⟩
@[reducible] def k82 : TI := ⟨.fn, 1, 8, [.nilFunc]⟩
@[reducible] def k83 : TI := ⟨.fn, 1, 8, [.nilFunc]⟩
@[reducible] def k84 : TI := ⟨.fn, 1, 8, [.nilFunc]⟩
@[reducible] def k85 : TI := ⟨.ifc, 1, 16, [.nilIface]⟩
@[reducible] def k86 : TI := ⟨.ifc, 1, 16, [.nilIface]⟩
@[reducible] def k88 : TI := ⟨.fn, 1, 8, [.nilFunc]⟩
@[reducible] def k89 : TI := ⟨.fn, 1, 8, [.nilFunc]⟩
@[reducible] def k90 : TI := ⟨.arr 4 22, 4, 32, [.float .f64 0, .float .f64 0, .float .f64 0, .float .f64 0]⟩
@[reducible] def k91 : TI := ⟨.arr 3 22, 3, 24, [.float .f64 0, .float .f64 0, .float .f64 0]⟩
@[reducible] def k92 : TI := ⟨.arr 3 91, 9, 72, [.float .f64 0, .float .f64 0, .float .f64 0, .float .f64 0, .float .f64 0, .float .f64 0, .float .f64 0, .float .f64 0, .float .f64 0]⟩
@[reducible] def k93 : TI := ⟨.fn, 1, 8, [.nilFunc]⟩
@[reducible] def k94 : TI := ⟨.fn, 1, 8, [.nilFunc]⟩
@[reducible] def k95 : TI := ⟨.fn, 1, 8, [.nilFunc]⟩
@[reducible] def k96 : TI := ⟨.struct [(0, 22), (1, 22), (2, 4)], 3, 24, [.float .f64 0, .float .f64 0, .bool false]⟩
@[reducible] def k97 : TI := ⟨.struct [(0, 22), (1, 22), (2, 4)], 3, 24, [.float .f64 0, .float .f64 0, .bool false]⟩
@[reducible] def k98 : TI := ⟨.fn, 1, 8, [.nilFunc]⟩
@[reducible] def k99 : TI := ⟨.fn, 1, 8, [.nilFunc]⟩
@[reducible] def k100 : TI := ⟨.fn, 1, 8, [.nilFunc]⟩
@[reducible] def k101 : TI := ⟨.fn, 1, 8, [.nilFunc]⟩
@[reducible] def k102 : TI := ⟨.fn, 1, 8, [.nilFunc]⟩
@[reducible] def k103 : TI := ⟨.fn, 1, 8, [.nilFunc]⟩
@[reducible] def k104 : TI := ⟨.fn, 1, 8, [.nilFunc]⟩
@[reducible] def k105 : TI := ⟨.fn, 1, 8, [.nilFunc]⟩
@[reducible] def k107 : TI := ⟨.fn, 1, 8, [.nilFunc]⟩
@[reducible] def k108 : TI := ⟨.fn, 1, 8, [.nilFunc]⟩
@[reducible] def k109 : TI := ⟨.struct [(0, 24), (3, 22)], 4, 32, [.float .f64 0, .float .f64 0, .float .f64 0, .float .f64 0]⟩
@[reducible] def k110 : TI := ⟨.struct [(0, 24), (3, 22)], 4, 32, [.float .f64 0, .float .f64 0, .float .f64 0, .float .f64 0]⟩
@[reducible] def k111 : TI := ⟨.struct [(0, 54)], 6, 48, [.float .f64 0, .float .f64 0, .float .f64 0, .float .f64 0, .float .f64 0, .float .f64 0]⟩
@[reducible] def k112 : TI := ⟨.struct [(0, 54)], 6, 48, [.float .f64 0, .float .f64 0, .float .f64 0, .float .f64 0, .float .f64 0, .float .f64 0]⟩
@[reducible] def k113 : TI := ⟨.struct [(0, 24), (3, 24), (6, 24)], 9, 72, [.float .f64 0, .float .f64 0, .float .f64 0, .float .f64 0, .float .f64 0, .float .f64 0, .float .f64 0, .float .f64 0, .float .f64 0]⟩
@[reducible] def k114 : TI := ⟨.struct [(0, 24), (3, 24), (6, 24)], 9, 72, [.float .f64 0, .float .f64 0, .float .f64 0, .float .f64 0, .float .f64 0, .float .f64 0, .float .f64 0, .float .f64 0, .float .f64 0]⟩
@[reducible] def k115 : TI := ⟨.struct [(0, 24), (3, 24), (6, 22)], 7, 56, [.float .f64 0, .float .f64 0, .float .f64 0, .float .f64 0, .float .f64 0, .float .f64 0, .float .f64 0]⟩
@[reducible] def k116 : TI := ⟨.struct [(0, 24), (3, 24), (6, 22)], 7, 56, [.float .f64 0, .float .f64 0, .float .f64 0, .float .f64 0, .float .f64 0, .float .f64 0, .float .f64 0]⟩
@[reducible] def k117 : TI := ⟨.struct [(0, 24), (3, 24), (6, 22)], 7, 56, [.float .f64 0, .float .f64 0, .float .f64 0, .float .f64 0, .float .f64 0, .float .f64 0, .float .f64 0]⟩
@[reducible] def k118 : TI := ⟨.struct [(0, 24), (3, 24), (6, 22)], 7, 56, [.float .f64 0, .float .f64 0, .float .f64 0, .float .f64 0, .float .f64 0, .float .f64 0, .float .f64 0]⟩
@[reducible] def k119 : TI := ⟨.struct [(0, 24), (3, 24), (6, 22), (7, 22)], 8, 64, [.float .f64 0, .float .f64 0, .float .f64 0, .float .f64 0, .float .f64 0, .float .f64 0, .float .f64 0, .float .f64 0]⟩
@[reducible] def k120 : TI := ⟨.struct [(0, 24), (3, 24), (6, 22), (7, 22)], 8, 64, [.float .f64 0, .float .f64 0, .float .f64 0, .float .f64 0, .float .f64 0, .float .f64 0, .float .f64 0, .float .f64 0]⟩
@[reducible] def k121 : TI := ⟨.fn, 1, 8, [.nilFunc]⟩
@[reducible] def k122 : TI := ⟨.fn, 1, 8, [.nilFunc]⟩
@[reducible] def k123 : TI := ⟨.fn, 1, 8, [.nilFunc]⟩
@[reducible] def k124 : TI := ⟨.ptr, 1, 8, [.pointer none]⟩
@[reducible] def k125 : TI := ⟨.fn, 1, 8, [.nilFunc]⟩
@[reducible] def k126 : TI := ⟨.fn, 1, 8, [.nilFunc]⟩
@[reducible] def k127 : TI := ⟨.fn, 1, 8, [.nilFunc]⟩
@[reducible] def k128 : TI := ⟨.fn, 1, 8, [.nilFunc]⟩
@[reducible] def k129 : TI := ⟨.int .u64, 1, 8, [.int .u64 0]⟩
@[reducible] def k130 : TI := ⟨.fn, 1, 8, [.nilFunc]⟩
@[reducible] def k135 : TI := ⟨.fn, 1, 8, [.nilFunc]⟩
@[reducible] def k137 : TI := ⟨.fn, 1, 8, [.nilFunc]⟩
@[reducible] def k139 : TI := ⟨.fn, 1, 8, [.nilFunc]⟩
@[reducible] def k140 : TI := ⟨.fn, 1, 8, [.nilFunc]⟩
@[reducible] def k141 : TI := ⟨.fn, 1, 8, [.nilFunc]⟩
@[reducible] def k142 : TI := ⟨.fn, 1, 8, [.nilFunc]⟩
@[reducible] def k143 : TI := ⟨.fn, 1, 8, [.nilFunc]⟩
@[reducible] def k144 : TI := ⟨.fn, 1, 8, [.nilFunc]⟩
@[reducible] def k145 : TI := ⟨.arr 3 3, 3, 24, [.int .i64 0, .int .i64 0, .int .i64 0]⟩
@[reducible] def k146 : TI := ⟨.fn, 1, 8, [.nilFunc]⟩
@[reducible] def k148 : TI := ⟨.fn, 1, 8, [.nilFunc]⟩
@[reducible] def k149 : TI := ⟨.fn, 1, 8, [.nilFunc]⟩
@[reducible] def k150 : TI := ⟨.fn, 1, 8, [.nilFunc]⟩
@[reducible] def k151 : TI := ⟨.sl 153, 1, 24, [.slice none 0 0]⟩
@[reducible] def k152 : TI := ⟨.struct [(0, 4), (1, 34)], 2, 32, [.bool false, .slice none 0 0]⟩
@[reducible] def k153 : TI := ⟨.struct [(0, 4), (1, 34)], 2, 32, [.bool false, .slice none 0 0]⟩
@[reducible] def k154 : TI := ⟨.fn, 1, 8, [.nilFunc]⟩
@[reducible] def k155 : TI := ⟨.fn, 1, 8, [.nilFunc]⟩
@[reducible] def k156 : TI := ⟨.fn, 1, 8, [.nilFunc]⟩
@[reducible] def k157 : TI := ⟨.fn, 1, 8, [.nilFunc]⟩
@[reducible] def k158 : TI := ⟨.fn, 1, 8, [.nilFunc]⟩
@[reducible] def k159 : TI := ⟨.fn, 1, 8, [.nilFunc]⟩
@[reducible] def k160 : TI := ⟨.fn, 1, 8, [.nilFunc]⟩
@[reducible] def k161 : TI := ⟨.fn, 1, 8, [.nilFunc]⟩
@[reducible] def k162 : TI := ⟨.fn, 1, 8, [.nilFunc]⟩
@[reducible] def k163 : TI := ⟨.fn, 1, 8, [.nilFunc]⟩
@[reducible] def k164 : TI := ⟨.sl 151, 1, 24, [.slice none 0 0]⟩
@[reducible] def k165 : TI := ⟨.fn, 1, 8, [.nilFunc]⟩
@[reducible] def k166 : TI := ⟨.fn, 1, 8, [.nilFunc]⟩
@[reducible] def k167 : TI := ⟨.fn, 1, 8, [.nilFunc]⟩
@[reducible] def k168 : TI := ⟨.fn, 1, 8, [.nilFunc]⟩
@[reducible] def k170 : TI := ⟨.fn, 1, 8, [.nilFunc]⟩
@[reducible] def k172 : TI := ⟨.fn, 1, 8, [.nilFunc]⟩
@[reducible] def k173 : TI := ⟨.fn, 1, 8, [.nilFunc]⟩
@[reducible] def k174 : TI := ⟨.int .u64, 1, 8, [.int .u64 0]⟩
@[reducible] def k175 : TI := ⟨.fn, 1, 8, [.nilFunc]⟩
@[reducible] def k176 : TI := ⟨.struct [(0, 17), (1, 17), (2, 17), (3, 9)], 4, 40, [.pointer none, .pointer none, .pointer none, .string ⟨#[]⟩]⟩
@[reducible] def k177 : TI := ⟨.struct [(0, 17), (1, 17), (2, 17), (3, 9)], 4, 40, [.pointer none, .pointer none, .pointer none, .string ⟨#[]⟩]⟩
@[reducible] def k178 : TI := ⟨.arr 0 16, 0, 0, []⟩
@[reducible] def k179 : TI := ⟨.struct [(0, 178)], 0, 0, []⟩
@[reducible] def k180 : TI := ⟨.struct [(0, 178)], 0, 0, []⟩
@[reducible] def k181 : TI := ⟨.fn, 1, 8, [.nilFunc]⟩
@[reducible] def k182 : TI := ⟨.int .u32, 1, 4, [.int .u32 0]⟩
@[reducible] def k183 : TI := ⟨.int .u8, 1, 1, [.int .u8 0]⟩
@[reducible] def k184 : TI := ⟨.int .u8, 1, 1, [.int .u8 0]⟩
@[reducible] def k185 : TI := ⟨.fn, 1, 8, [.nilFunc]⟩
@[reducible] def k186 : TI := ⟨.ptr, 1, 8, [.pointer none]⟩
@[reducible] def k187 : TI := ⟨.int .i32, 1, 4, [.int .i32 0]⟩
@[reducible] def k188 : TI := ⟨.int .i32, 1, 4, [.int .i32 0]⟩
@[reducible] def k189 : TI := ⟨.struct [(0, 12), (1, 12), (2, 182), (3, 183), (4, 5), (5, 5), (6, 184), (7, 185), (8, 186), (9, 187), (10, 188)], 11, 48, [.int .u64 0, .int .u64 0, .int .u32 0, .int .u8 0, .int .u8 0, .int .u8 0, .int .u8 0, .nilFunc, .pointer none, .int .i32 0, .int .i32 0]⟩
@[reducible] def k190 : TI := ⟨.struct [(0, 12), (1, 12), (2, 182), (3, 183), (4, 5), (5, 5), (6, 184), (7, 185), (8, 186), (9, 187), (10, 188)], 11, 48, [.int .u64 0, .int .u64 0, .int .u32 0, .int .u8 0, .int .u8 0, .int .u8 0, .int .u8 0, .nilFunc, .pointer none, .int .i32 0, .int .i32 0]⟩
@[reducible] def k191 : TI := ⟨.fn, 1, 8, [.nilFunc]⟩
@[reducible] def k192 : TI := ⟨.fn, 1, 8, [.nilFunc]⟩
@[reducible] def k193 : TI := ⟨.fn, 1, 8, [.nilFunc]⟩
@[reducible] def k194 : TI := ⟨.fn, 1, 8, [.nilFunc]⟩
@[reducible] def k195 : TI := ⟨.fn, 1, 8, [.nilFunc]⟩
@[reducible] def k196 : TI := ⟨.arr 8 3, 8, 64, [.int .i64 0, .int .i64 0, .int .i64 0, .int .i64 0, .int .i64 0, .int .i64 0, .int .i64 0, .int .i64 0]⟩
@[reducible] def k197 : TI := ⟨.sl 199, 1, 24, [.slice none 0 0]⟩
@[reducible] def k198 : TI := ⟨.sl 199, 1, 24, [.slice none 0 0]⟩
@[reducible] def k199 : TI := ⟨.ptr, 1, 8, [.pointer none]⟩
@[reducible] def k200 : TI := ⟨.fn, 1, 8, [.nilFunc]⟩
@[reducible] def k201 : TI := ⟨.fn, 1, 8, [.nilFunc]⟩
@[reducible] def k202 : TI := ⟨.fn, 1, 8, [.nilFunc]⟩
@[reducible] def k203 : TI := ⟨.fn, 1, 8, [.nilFunc]⟩
@[reducible] def k204 : TI := ⟨.sl 205, 1, 24, [.slice none 0 0]⟩
@[reducible] def k205 : TI := ⟨.int .u64, 1, 8, [.int .u64 0]⟩
@[reducible] def k206 : TI := ⟨.sl 205, 1, 24, [.slice none 0 0]⟩
@[reducible] def k207 : TI := ⟨.struct [(0, 4), (1, 206)], 2, 32, [.bool false, .slice none 0 0]⟩
@[reducible] def k208 : TI := ⟨.struct [(0, 4), (1, 206)], 2, 32, [.bool false, .slice none 0 0]⟩
@[reducible] def k209 : TI := ⟨.fn, 1, 8, [.nilFunc]⟩
@[reducible] def k210 : TI := ⟨.fn, 1, 8, [.nilFunc]⟩
@[reducible] def k211 : TI := ⟨.fn, 1, 8, [.nilFunc]⟩
@[reducible] def k212 : TI := ⟨.ptr, 1, 8, [.pointer none]⟩
@[reducible] def k213 : TI := ⟨.sl 198, 1, 24, [.slice none 0 0]⟩
@[reducible] def k214 : TI := ⟨.fn, 1, 8, [.nilFunc]⟩
@[reducible] def k215 : TI := ⟨.struct [(0, 213), (1, 34)], 2, 48, [.slice none 0 0, .slice none 0 0]⟩
@[reducible] def k216 : TI := ⟨.struct [(0, 213), (1, 34)], 2, 48, [.slice none 0 0, .slice none 0 0]⟩
@[reducible] def k217 : TI := ⟨.fn, 1, 8, [.nilFunc]⟩
@[reducible] def k218 : TI := ⟨.fn, 1, 8, [.nilFunc]⟩
@[reducible] def k219 : TI := ⟨.fn, 1, 8, [.nilFunc]⟩
@[reducible] def k220 : TI := ⟨.fn, 1, 8, [.nilFunc]⟩
@[reducible] def k221 : TI := ⟨.fn, 1, 8, [.nilFunc]⟩
@[reducible] def k222 : TI := ⟨.fn, 1, 8, [.nilFunc]⟩
@[reducible] def k223 : TI := ⟨.fn, 1, 8, [.nilFunc]⟩
@[reducible] def k225 : TI := ⟨.fn, 1, 8, [.nilFunc]⟩
@[reducible] def k226 : TI := ⟨.fn, 1, 8, [.nilFunc]⟩
@[reducible] def k227 : TI := ⟨.fn, 1, 8, [.nilFunc]⟩
@[reducible] def k228 : TI := ⟨.fn, 1, 8, [.nilFunc]⟩
@[reducible] def k229 : TI := ⟨.fn, 1, 8, [.nilFunc]⟩
@[reducible] def k230 : TI := ⟨.fn, 1, 8, [.nilFunc]⟩
@[reducible] def k231 : TI := ⟨.fn, 1, 8, [.nilFunc]⟩
@[reducible] def k232 : TI := ⟨.fn, 1, 8, [.nilFunc]⟩
@[reducible] def k233 : TI := ⟨.fn, 1, 8, [.nilFunc]⟩
@[reducible] def k235 : TI := ⟨.fn, 1, 8, [.nilFunc]⟩
@[reducible] def k236 : TI := ⟨.ptr, 1, 8, [.pointer none]⟩
@[reducible] def k237 : TI := ⟨.fn, 1, 8, [.nilFunc]⟩
@[reducible] def k238 : TI := ⟨.fn, 1, 8, [.nilFunc]⟩
@[reducible] def k239 : TI := ⟨.fn, 1, 8, [.nilFunc]⟩
@[reducible] def k241 : TI := ⟨.fn, 1, 8, [.nilFunc]⟩
@[reducible] def k242 : TI := ⟨.fn, 1, 8, [.nilFunc]⟩
@[reducible] def k243 : TI := ⟨.fn, 1, 8, [.nilFunc]⟩
@[reducible] def k244 : TI := ⟨.ptr, 1, 8, [.pointer none]⟩
@[reducible] def k246 : TI := ⟨.fn, 1, 8, [.nilFunc]⟩
@[reducible] def k248 : TI := ⟨.fn, 1, 8, [.nilFunc]⟩
@[reducible] def k250 : TI := ⟨.fn, 1, 8, [.nilFunc]⟩
@[reducible] def k251 : TI := ⟨.fn, 1, 8, [.nilFunc]⟩
@[reducible] def k252 : TI := ⟨.fn, 1, 8, [.nilFunc]⟩
@[reducible] def k253 : TI := ⟨.fn, 1, 8, [.nilFunc]⟩
@[reducible] def k254 : TI := ⟨.fn, 1, 8, [.nilFunc]⟩
@[reducible] def k255 : TI := ⟨.fn, 1, 8, [.nilFunc]⟩
@[reducible] def k256 : TI := ⟨.fn, 1, 8, [.nilFunc]⟩
@[reducible] def k257 : TI := ⟨.fn, 1, 8, [.nilFunc]⟩
@[reducible] def k258 : TI := ⟨.fn, 1, 8, [.nilFunc]⟩
@[reducible] def k259 : TI := ⟨.fn, 1, 8, [.nilFunc]⟩
@[reducible] def k261 : TI := ⟨.fn, 1, 8, [.nilFunc]⟩
@[reducible] def k262 : TI := ⟨.fn, 1, 8, [.nilFunc]⟩
@[reducible] def k264 : TI := ⟨.fn, 1, 8, [.nilFunc]⟩
@[reducible] def k265 : TI := ⟨.fn, 1, 8, [.nilFunc]⟩
@[reducible] def k267 : TI := ⟨.fn, 1, 8, [.nilFunc]⟩
@[reducible] def k268 : TI := ⟨.fn, 1, 8, [.nilFunc]⟩
@[reducible] def k269 : TI := ⟨.fn, 1, 8, [.nilFunc]⟩
@[reducible] def k270 : TI := ⟨.fn, 1, 8, [.nilFunc]⟩
@[reducible] def k271 : TI := ⟨.fn, 1, 8, [.nilFunc]⟩
@[reducible] def k272 : TI := ⟨.fn, 1, 8, [.nilFunc]⟩
@[reducible] def k273 : TI := ⟨.ptr, 1, 8, [.pointer none]⟩
@[reducible] def k274 : TI := ⟨.struct [(0, 273)], 1, 8, [.pointer none]⟩
@[reducible] def k275 : TI := ⟨.struct [(0, 273)], 1, 8, [.pointer none]⟩
@[reducible] def k276 : TI := ⟨.fn, 1, 8, [.nilFunc]⟩
@[reducible] def k277 : TI := ⟨.fn, 1, 8, [.nilFunc]⟩
@[reducible] def k278 : TI := ⟨.fn, 1, 8, [.nilFunc]⟩
@[reducible] def k280 : TI := ⟨.struct [], 0, 0, []⟩
@[reducible] def k281 : TI := ⟨.struct [], 0, 0, []⟩
@[reducible] def k283 : TI := ⟨.fn, 1, 8, [.nilFunc]⟩
@[reducible] def k284 : TI := ⟨.struct [(0, 281), (0, 282), (1, 12), (2, 282), (3, 12), (4, 283)], 5, 40, [.pointer none, .int .u64 0, .pointer none, .int .u64 0, .nilFunc]⟩
@[reducible] def k285 : TI := ⟨.struct [(0, 281), (0, 282), (1, 12), (2, 282), (3, 12), (4, 283)], 5, 40, [.pointer none, .int .u64 0, .pointer none, .int .u64 0, .nilFunc]⟩
@[reducible] def k286 : TI := ⟨.struct [(0, 204)], 1, 24, [.slice none 0 0]⟩
@[reducible] def k287 : TI := ⟨.struct [(0, 204)], 1, 24, [.slice none 0 0]⟩
@[reducible] def k288 : TI := ⟨.fn, 1, 8, [.nilFunc]⟩
@[reducible] def k290 : TI := ⟨.fn, 1, 8, [.nilFunc]⟩
@[reducible] def k291 : TI := ⟨.fn, 1, 8, [.nilFunc]⟩
@[reducible] def k292 : TI := ⟨.fn, 1, 8, [.nilFunc]⟩
@[reducible] def k293 : TI := ⟨.fn, 1, 8, [.nilFunc]⟩
@[reducible] def k294 : TI := ⟨.fn, 1, 8, [.nilFunc]⟩
@[reducible] def k295 : TI := ⟨.fn, 1, 8, [.nilFunc]⟩
@[reducible] def k296 : TI := ⟨.ptr, 1, 8, [.pointer none]⟩
@[reducible] def k297 : TI := ⟨.ptr, 1, 8, [.pointer none]⟩
@[reducible] def k299 : TI := ⟨.fn, 1, 8, [.nilFunc]⟩
@[reducible] def k300 : TI := ⟨.ptr, 1, 8, [.pointer none]⟩
@[reducible] def k301 : TI := ⟨.arr 0 300, 0, 0, []⟩
@[reducible] def k302 : TI := ⟨.struct [], 0, 0, []⟩
@[reducible] def k303 : TI := ⟨.struct [(0, 301), (0, 302), (0, 282)], 1, 8, [.pointer none]⟩
@[reducible] def k304 : TI := ⟨.struct [(0, 301), (0, 302), (0, 282)], 1, 8, [.pointer none]⟩
@[reducible] def k305 : TI := ⟨.struct [(0, 300), (1, 304)], 2, 16, [.pointer none, .pointer none]⟩
@[reducible] def k306 : TI := ⟨.struct [(0, 300), (1, 304)], 2, 16, [.pointer none, .pointer none]⟩
@[reducible] def k307 : TI := ⟨.struct [(0, 20), (1, 306)], 3, 32, [.nilIface, .pointer none, .pointer none]⟩
@[reducible] def k308 : TI := ⟨.struct [(0, 20), (1, 306)], 3, 32, [.nilIface, .pointer none, .pointer none]⟩
@[reducible] def k313 : TI := ⟨.fn, 1, 8, [.nilFunc]⟩
@[reducible] def k314 : TI := ⟨.fn, 1, 8, [.nilFunc]⟩
@[reducible] def k315 : TI := ⟨.fn, 1, 8, [.nilFunc]⟩
@[reducible] def k316 : TI := ⟨.fn, 1, 8, [.nilFunc]⟩
@[reducible] def k317 : TI := ⟨.struct [(0, 20)], 1, 16, [.nilIface]⟩
@[reducible] def k318 : TI := ⟨.struct [(0, 20)], 1, 16, [.nilIface]⟩
@[reducible] def k319 : TI := ⟨.ptr, 1, 8, [.pointer none]⟩
@[reducible] def k320 : TI := ⟨.ptr, 1, 8, [.pointer none]⟩
@[reducible] def k321 : TI := ⟨.fn, 1, 8, [.nilFunc]⟩
@[reducible] def k322 : TI := ⟨.fn, 1, 8, [.nilFunc]⟩
@[reducible] def k323 : TI := ⟨.fn, 1, 8, [.nilFunc]⟩
@[reducible] def k324 : TI := ⟨.fn, 1, 8, [.nilFunc]⟩
@[reducible] def k325 : TI := ⟨.fn, 1, 8, [.nilFunc]⟩
@[reducible] def k326 : TI := ⟨.fn, 1, 8, [.nilFunc]⟩
@[reducible] def k327 : TI := ⟨.fn, 1, 8, [.nilFunc]⟩
@[reducible] def k328 : TI := ⟨.fn, 1, 8, [.nilFunc]⟩
@[reducible] def k329 : TI := ⟨.fn, 1, 8, [.nilFunc]⟩
@[reducible] def k330 : TI := ⟨.ptr, 1, 8, [.pointer none]⟩
@[reducible] def k331 : TI := ⟨.fn, 1, 8, [.nilFunc]⟩
@[reducible] def k332 : TI := ⟨.ptr, 1, 8, [.pointer none]⟩
@[reducible] def k333 : TI := ⟨.struct [], 0, 0, []⟩
@[reducible] def k334 : TI := ⟨.struct [(0, 302), (0, 333), (0, 129)], 1, 8, [.int .u64 0]⟩
@[reducible] def k335 : TI := ⟨.struct [(0, 302), (0, 333), (0, 129)], 1, 8, [.int .u64 0]⟩
@[reducible] def k336 : TI := ⟨.sl 404, 1, 24, [.slice none 0 0]⟩
@[reducible] def k337 : TI := ⟨.struct [(0, 335), (1, 336)], 2, 32, [.int .u64 0, .slice none 0 0]⟩
@[reducible] def k338 : TI := ⟨.struct [(0, 335), (1, 336)], 2, 32, [.int .u64 0, .slice none 0 0]⟩
@[reducible] def k339 : TI := ⟨.struct [(0, 338), (2, 304), (3, 304)], 4, 48, [.int .u64 0, .slice none 0 0, .pointer none, .pointer none]⟩
@[reducible] def k340 : TI := ⟨.struct [(0, 338), (2, 304), (3, 304)], 4, 48, [.int .u64 0, .slice none 0 0, .pointer none, .pointer none]⟩
@[reducible] def k341 : TI := ⟨.fn, 1, 8, [.nilFunc]⟩
@[reducible] def k342 : TI := ⟨.fn, 1, 8, [.nilFunc]⟩
@[reducible] def k343 : TI := ⟨.fn, 1, 8, [.nilFunc]⟩
@[reducible] def k344 : TI := ⟨.fn, 1, 8, [.nilFunc]⟩
@[reducible] def k345 : TI := ⟨.sl 5, 1, 24, [.slice none 0 0]⟩
@[reducible] def k346 : TI := ⟨.fn, 1, 8, [.nilFunc]⟩
@[reducible] def k347 : TI := ⟨.struct [(0, 21), (1, 182)], 2, 8, [.int .i32 0, .int .u32 0]⟩
@[reducible] def k348 : TI := ⟨.struct [(0, 21), (1, 182)], 2, 8, [.int .i32 0, .int .u32 0]⟩
@[reducible] def k349 : TI := ⟨.struct [(0, 281), (0, 348)], 2, 8, [.int .i32 0, .int .u32 0]⟩
@[reducible] def k350 : TI := ⟨.struct [(0, 281), (0, 348)], 2, 8, [.int .i32 0, .int .u32 0]⟩
@[reducible] def k351 : TI := ⟨.sl 296, 1, 24, [.slice none 0 0]⟩
@[reducible] def k352 : TI := ⟨.fn, 1, 8, [.nilFunc]⟩
@[reducible] def k353 : TI := ⟨.sl 311, 1, 24, [.slice none 0 0]⟩
@[reducible] def k354 : TI := ⟨.fn, 1, 8, [.nilFunc]⟩
@[reducible] def k355 : TI := ⟨.ptr, 1, 8, [.pointer none]⟩
@[reducible] def k356 : TI := ⟨.ptr, 1, 8, [.pointer none]⟩
@[reducible] def k357 : TI := ⟨.ptr, 1, 8, [.pointer none]⟩
@[reducible] def k358 : TI := ⟨.fn, 1, 8, [.nilFunc]⟩
@[reducible] def k359 : TI := ⟨.fn, 1, 8, [.nilFunc]⟩
@[reducible] def k360 : TI := ⟨.fn, 1, 8, [.nilFunc]⟩
@[reducible] def k361 : TI := ⟨.fn, 1, 8, [.nilFunc]⟩
@[reducible] def k362 : TI := ⟨.ifc, 1, 16, [.nilIface]⟩
@[reducible] def k363 : TI := ⟨.ifc, 1, 16, [.nilIface]⟩
@[reducible] def k365 : TI := ⟨.fn, 1, 8, [.nilFunc]⟩
@[reducible] def k366 : TI := ⟨.sl 372, 1, 24, [.slice none 0 0]⟩
@[reducible] def k367 : TI := ⟨.fn, 1, 8, [.nilFunc]⟩
@[reducible] def k368 : TI := ⟨.fn, 1, 8, [.nilFunc]⟩
@[reducible] def k369 : TI := ⟨.ptr, 1, 8, [.pointer none]⟩
@[reducible] def k370 : TI := ⟨.fn, 1, 8, [.nilFunc]⟩
@[reducible] def k371 : TI := ⟨.struct [(0, 206), (1, 3), (2, 3)], 3, 40, [.slice none 0 0, .int .i64 0, .int .i64 0]⟩
@[reducible] def k372 : TI := ⟨.struct [(0, 206), (1, 3), (2, 3)], 3, 40, [.slice none 0 0, .int .i64 0, .int .i64 0]⟩
@[reducible] def k375 : TI := ⟨.fn, 1, 8, [.nilFunc]⟩
@[reducible] def k376 : TI := ⟨.ptr, 1, 8, [.pointer none]⟩
@[reducible] def k377 : TI := ⟨.fn, 1, 8, [.nilFunc]⟩
@[reducible] def k378 : TI := ⟨.ptr, 1, 8, [.pointer none]⟩
@[reducible] def k379 : TI := ⟨.fn, 1, 8, [.nilFunc]⟩
@[reducible] def k380 : TI := ⟨.fn, 1, 8, [.nilFunc]⟩
@[reducible] def k382 : TI := ⟨.fn, 1, 8, [.nilFunc]⟩
@[reducible] def k383 : TI := ⟨.arr 32 5, 32, 32, [.int .u8 0, .int .u8 0, .int .u8 0, .int .u8 0, .int .u8 0, .int .u8 0, .int .u8 0, .int .u8 0, .int .u8 0, .int .u8 0, .int .u8 0, .int .u8 0, .int .u8 0, .int .u8 0, .int .u8 0, .int .u8 0, .int .u8 0, .int .u8 0, .int .u8 0, .int .u8 0, .int .u8 0, .int .u8 0, .int .u8 0, .int .u8 0, .int .u8 0, .int .u8 0, .int .u8 0, .int .u8 0, .int .u8 0, .int .u8 0, .int .u8 0, .int .u8 0]⟩
@[reducible] def k384 : TI := ⟨.arr 64 5, 64, 64, [.int .u8 0, .int .u8 0, .int .u8 0, .int .u8 0, .int .u8 0, .int .u8 0, .int .u8 0, .int .u8 0, .int .u8 0, .int .u8 0, .int .u8 0, .int .u8 0, .int .u8 0, .int .u8 0, .int .u8 0, .int .u8 0, .int .u8 0, .int .u8 0, .int .u8 0, .int .u8 0, .int .u8 0, .int .u8 0, .int .u8 0, .int .u8 0, .int .u8 0, .int .u8 0, .int .u8 0, .int .u8 0, .int .u8 0, .int .u8 0, .int .u8 0, .int .u8 0, .int .u8 0, .int .u8 0, .int .u8 0, .int .u8 0, .int .u8 0, .int .u8 0, .int .u8 0, .int .u8 0, .int .u8 0, .int .u8 0, .int .u8 0, .int .u8 0, .int .u8 0, .int .u8 0, .int .u8 0, .int .u8 0, .int .u8 0, .int .u8 0, .int .u8 0, .int .u8 0, .int .u8 0, .int .u8 0, .int .u8 0, .int .u8 0, .int .u8 0, .int .u8 0, .int .u8 0, .int .u8 0, .int .u8 0, .int .u8 0, .int .u8 0, .int .u8 0]⟩
@[reducible] def k385 : TI := ⟨.fn, 1, 8, [.nilFunc]⟩
@[reducible] def k386 : TI := ⟨.fn, 1, 8, [.nilFunc]⟩
@[reducible] def k387 : TI := ⟨.fn, 1, 8, [.nilFunc]⟩
@[reducible] def k388 : TI := ⟨.ptr, 1, 8, [.pointer none]⟩
@[reducible] def k389 : TI := ⟨.fn, 1, 8, [.nilFunc]⟩
@[reducible] def k391 : TI := ⟨.fn, 1, 8, [.nilFunc]⟩
@[reducible] def k392 : TI := ⟨.fn, 1, 8, [.nilFunc]⟩
@[reducible] def k393 : TI := ⟨.fn, 1, 8, [.nilFunc]⟩
@[reducible] def k394 : TI := ⟨.arr 16 206, 16, 384, [.slice none 0 0, .slice none 0 0, .slice none 0 0, .slice none 0 0, .slice none 0 0, .slice none 0 0, .slice none 0 0, .slice none 0 0, .slice none 0 0, .slice none 0 0, .slice none 0 0, .slice none 0 0, .slice none 0 0, .slice none 0 0, .slice none 0 0, .slice none 0 0]⟩
@[reducible] def k395 : TI := ⟨.fn, 1, 8, [.nilFunc]⟩
@[reducible] def k396 : TI := ⟨.ptr, 1, 8, [.pointer none]⟩
@[reducible] def k397 : TI := ⟨.fn, 1, 8, [.nilFunc]⟩
@[reducible] def k398 : TI := ⟨.fn, 1, 8, [.nilFunc]⟩
@[reducible] def k399 : TI := ⟨.ptr, 1, 8, [.pointer none]⟩
@[reducible] def k400 : TI := ⟨.ptr, 1, 8, [.pointer none]⟩
@[reducible] def k401 : TI := ⟨.ptr, 1, 8, [.pointer none]⟩
@[reducible] def k402 : TI := ⟨.fn, 1, 8, [.nilFunc]⟩
@[reducible] def k403 : TI := ⟨.struct [(0, 282), (1, 282)], 2, 16, [.pointer none, .pointer none]⟩
@[reducible] def k404 : TI := ⟨.struct [(0, 282), (1, 282)], 2, 16, [.pointer none, .pointer none]⟩
@[reducible] def k405 : TI := ⟨.struct [(0, 9)], 1, 16, [.string ⟨#[]⟩]⟩
@[reducible] def k406 : TI := ⟨.struct [(0, 9)], 1, 16, [.string ⟨#[]⟩]⟩
@[reducible] def k407 : TI := ⟨.struct [(0, 9), (1, 363)], 2, 32, [.string ⟨#[]⟩, .nilIface]⟩
@[reducible] def k408 : TI := ⟨.struct [(0, 9), (1, 363)], 2, 32, [.string ⟨#[]⟩, .nilIface]⟩
@[reducible] def k409 : TI := ⟨.sl 363, 1, 24, [.slice none 0 0]⟩
@[reducible] def k410 : TI := ⟨.struct [(0, 9), (1, 409)], 2, 40, [.string ⟨#[]⟩, .slice none 0 0]⟩
@[reducible] def k411 : TI := ⟨.struct [(0, 9), (1, 409)], 2, 40, [.string ⟨#[]⟩, .slice none 0 0]⟩
def tree : TT :=
  (.node 205 k205 (.node 103 k103 (.node 51 k51 (.node 24 k24 (.node 12 k12 (.node 6 k6 (.node 3 k3 (.node 2 k2 (.node 1 k1 .nil .nil) .nil) (.node 5 k5 (.node 4 k4 .nil .nil) .nil)) (.node 9 k9 (.node 8 k8 (.node 7 k7 .nil .nil) .nil) (.node 11 k11 (.node 10 k10 .nil .nil) .nil))) (.node 18 k18 (.node 15 k15 (.node 14 k14 (.node 13 k13 .nil .nil) .nil) (.node 17 k17 (.node 16 k16 .nil .nil) .nil)) (.node 21 k21 (.node 20 k20 (.node 19 k19 .nil .nil) .nil) (.node 23 k23 (.node 22 k22 .nil .nil) .nil)))) (.node 38 k38 (.node 32 k32 (.node 27 k27 (.node 26 k26 (.node 25 k25 .nil .nil) .nil) (.node 30 k30 (.node 28 k28 .nil .nil) .nil)) (.node 35 k35 (.node 34 k34 (.node 33 k33 .nil .nil) .nil) (.node 37 k37 (.node 36 k36 .nil .nil) .nil))) (.node 45 k45 (.node 41 k41 (.node 40 k40 (.node 39 k39 .nil .nil) .nil) (.node 44 k44 (.node 43 k43 .nil .nil) .nil)) (.node 48 k48 (.node 47 k47 (.node 46 k46 .nil .nil) .nil) (.node 50 k50 .nil .nil))))) (.node 78 k78 (.node 65 k65 (.node 58 k58 (.node 54 k54 (.node 53 k53 (.node 52 k52 .nil .nil) .nil) (.node 57 k57 (.node 56 k56 .nil .nil) .nil)) (.node 61 k61 (.node 60 k60 (.node 59 k59 .nil .nil) .nil) (.node 64 k64 (.node 63 k63 .nil .nil) .nil))) (.node 73 k73 (.node 70 k70 (.node 68 k68 (.node 66 k66 .nil .nil) .nil) (.node 72 k72 (.node 71 k71 .nil .nil) .nil)) (.node 76 k76 (.node 75 k75 (.node 74 k74 .nil .nil) .nil) (.node 77 k77 .nil .nil)))) (.node 92 k92 (.node 85 k85 (.node 82 k82 (.node 81 k81 (.node 80 k80 .nil .nil) .nil) (.node 84 k84 (.node 83 k83 .nil .nil) .nil)) (.node 89 k89 (.node 88 k88 (.node 86 k86 .nil .nil) .nil) (.node 91 k91 (.node 90 k90 .nil .nil) .nil))) (.node 98 k98 (.node 95 k95 (.node 94 k94 (.node 93 k93 .nil .nil) .nil) (.node 97 k97 (.node 96 k96 .nil .nil) .nil)) (.node 101 k101 (.node 100 k100 (.node 99 k99 .nil .nil) .nil) (.node 102 k102 .nil .nil)))))) (.node 157 k157 (.node 127 k127 (.node 116 k116 (.node 110 k110 (.node 107 k107 (.node 105 k105 (.node 104 k104 .nil .nil) .nil) (.node 109 k109 (.node 108 k108 .nil .nil) .nil)) (.node 113 k113 (.node 112 k112 (.node 111 k111 .nil .nil) .nil) (.node 115 k115 (.node 114 k114 .nil .nil) .nil))) (.node 122 k122 (.node 119 k119 (.node 118 k118 (.node 117 k117 .nil .nil) .nil) (.node 121 k121 (.node 120 k120 .nil .nil) .nil)) (.node 125 k125 (.node 124 k124 (.node 123 k123 .nil .nil) .nil) (.node 126 k126 .nil .nil)))) (.node 145 k145 (.node 139 k139 (.node 130 k130 (.node 129 k129 (.node 128 k128 .nil .nil) .nil) (.node 137 k137 (.node 135 k135 .nil .nil) .nil)) (.node 142 k142 (.node 141 k141 (.node 140 k140 .nil .nil) .nil) (.node 144 k144 (.node 143 k143 .nil .nil) .nil))) (.node 152 k152 (.node 149 k149 (.node 148 k148 (.node 146 k146 .nil .nil) .nil) (.node 151 k151 (.node 150 k150 .nil .nil) .nil)) (.node 155 k155 (.node 154 k154 (.node 153 k153 .nil .nil) .nil) (.node 156 k156 .nil .nil))))) (.node 182 k182 (.node 170 k170 (.node 163 k163 (.node 160 k160 (.node 159 k159 (.node 158 k158 .nil .nil) .nil) (.node 162 k162 (.node 161 k161 .nil .nil) .nil)) (.node 166 k166 (.node 165 k165 (.node 164 k164 .nil .nil) .nil) (.node 168 k168 (.node 167 k167 .nil .nil) .nil))) (.node 177 k177 (.node 174 k174 (.node 173 k173 (.node 172 k172 .nil .nil) .nil) (.node 176 k176 (.node 175 k175 .nil .nil) .nil)) (.node 180 k180 (.node 179 k179 (.node 178 k178 .nil .nil) .nil) (.node 181 k181 .nil .nil)))) (.node 194 k194 (.node 188 k188 (.node 185 k185 (.node 184 k184 (.node 183 k183 .nil .nil) .nil) (.node 187 k187 (.node 186 k186 .nil .nil) .nil)) (.node 191 k191 (.node 190 k190 (.node 189 k189 .nil .nil) .nil) (.node 193 k193 (.node 192 k192 .nil .nil) .nil))) (.node 200 k200 (.node 197 k197 (.node 196 k196 (.node 195 k195 .nil .nil) .nil) (.node 199 k199 (.node 198 k198 .nil .nil) .nil)) (.node 203 k203 (.node 202 k202 (.node 201 k201 .nil .nil) .nil) (.node 204 k204 .nil .nil))))))) (.node 315 k315 (.node 258 k258 (.node 230 k230 (.node 217 k217 (.node 211 k211 (.node 208 k208 (.node 207 k207 (.node 206 k206 .nil .nil) .nil) (.node 210 k210 (.node 209 k209 .nil .nil) .nil)) (.node 214 k214 (.node 213 k213 (.node 212 k212 .nil .nil) .nil) (.node 216 k216 (.node 215 k215 .nil .nil) .nil))) (.node 223 k223 (.node 220 k220 (.node 219 k219 (.node 218 k218 .nil .nil) .nil) (.node 222 k222 (.node 221 k221 .nil .nil) .nil)) (.node 227 k227 (.node 226 k226 (.node 225 k225 .nil .nil) .nil) (.node 229 k229 (.node 228 k228 .nil .nil) .nil)))) (.node 244 k244 (.node 237 k237 (.node 233 k233 (.node 232 k232 (.node 231 k231 .nil .nil) .nil) (.node 236 k236 (.node 235 k235 .nil .nil) .nil)) (.node 241 k241 (.node 239 k239 (.node 238 k238 .nil .nil) .nil) (.node 243 k243 (.node 242 k242 .nil .nil) .nil))) (.node 253 k253 (.node 250 k250 (.node 248 k248 (.node 246 k246 .nil .nil) .nil) (.node 252 k252 (.node 251 k251 .nil .nil) .nil)) (.node 256 k256 (.node 255 k255 (.node 254 k254 .nil .nil) .nil) (.node 257 k257 .nil .nil))))) (.node 286 k286 (.node 273 k273 (.node 267 k267 (.node 262 k262 (.node 261 k261 (.node 259 k259 .nil .nil) .nil) (.node 265 k265 (.node 264 k264 .nil .nil) .nil)) (.node 270 k270 (.node 269 k269 (.node 268 k268 .nil .nil) .nil) (.node 272 k272 (.node 271 k271 .nil .nil) .nil))) (.node 280 k280 (.node 276 k276 (.node 275 k275 (.node 274 k274 .nil .nil) .nil) (.node 278 k278 (.node 277 k277 .nil .nil) .nil)) (.node 284 k284 (.node 283 k283 (.node 281 k281 .nil .nil) .nil) (.node 285 k285 .nil .nil)))) (.node 300 k300 (.node 293 k293 (.node 290 k290 (.node 288 k288 (.node 287 k287 .nil .nil) .nil) (.node 292 k292 (.node 291 k291 .nil .nil) .nil)) (.node 296 k296 (.node 295 k295 (.node 294 k294 .nil .nil) .nil) (.node 299 k299 (.node 297 k297 .nil .nil) .nil))) (.node 306 k306 (.node 303 k303 (.node 302 k302 (.node 301 k301 .nil .nil) .nil) (.node 305 k305 (.node 304 k304 .nil .nil) .nil)) (.node 313 k313 (.node 308 k308 (.node 307 k307 .nil .nil) .nil) (.node 314 k314 .nil .nil)))))) (.node 361 k361 (.node 338 k338 (.node 327 k327 (.node 321 k321 (.node 318 k318 (.node 317 k317 (.node 316 k316 .nil .nil) .nil) (.node 320 k320 (.node 319 k319 .nil .nil) .nil)) (.node 324 k324 (.node 323 k323 (.node 322 k322 .nil .nil) .nil) (.node 326 k326 (.node 325 k325 .nil .nil) .nil))) (.node 333 k333 (.node 330 k330 (.node 329 k329 (.node 328 k328 .nil .nil) .nil) (.node 332 k332 (.node 331 k331 .nil .nil) .nil)) (.node 336 k336 (.node 335 k335 (.node 334 k334 .nil .nil) .nil) (.node 337 k337 .nil .nil)))) (.node 350 k350 (.node 344 k344 (.node 341 k341 (.node 340 k340 (.node 339 k339 .nil .nil) .nil) (.node 343 k343 (.node 342 k342 .nil .nil) .nil)) (.node 347 k347 (.node 346 k346 (.node 345 k345 .nil .nil) .nil) (.node 349 k349 (.node 348 k348 .nil .nil) .nil))) (.node 356 k356 (.node 353 k353 (.node 352 k352 (.node 351 k351 .nil .nil) .nil) (.node 355 k355 (.node 354 k354 .nil .nil) .nil)) (.node 359 k359 (.node 358 k358 (.node 357 k357 .nil .nil) .nil) (.node 360 k360 .nil .nil))))) (.node 388 k388 (.node 376 k376 (.node 368 k368 (.node 365 k365 (.node 363 k363 (.node 362 k362 .nil .nil) .nil) (.node 367 k367 (.node 366 k366 .nil .nil) .nil)) (.node 371 k371 (.node 370 k370 (.node 369 k369 .nil .nil) .nil) (.node 375 k375 (.node 372 k372 .nil .nil) .nil))) (.node 383 k383 (.node 379 k379 (.node 378 k378 (.node 377 k377 .nil .nil) .nil) (.node 382 k382 (.node 380 k380 .nil .nil) .nil)) (.node 386 k386 (.node 385 k385 (.node 384 k384 .nil .nil) .nil) (.node 387 k387 .nil .nil)))) (.node 401 k401 (.node 395 k395 (.node 392 k392 (.node 391 k391 (.node 389 k389 .nil .nil) .nil) (.node 394 k394 (.node 393 k393 .nil .nil) .nil)) (.node 398 k398 (.node 397 k397 (.node 396 k396 .nil .nil) .nil) (.node 400 k400 (.node 399 k399 .nil .nil) .nil))) (.node 407 k407 (.node 404 k404 (.node 403 k403 (.node 402 k402 .nil .nil) .nil) (.node 406 k406 (.node 405 k405 .nil .nil) .nil)) (.node 410 k410 (.node 409 k409 (.node 408 k408 .nil .nil) .nil) (.node 411 k411 .nil .nil))))))))
def eqs : ET :=
  .node 24 [.flt, .flt, .flt] (.node 26 [.flt, .flt, .flt, .flt, .flt, .flt, .flt] (.node 38 [.int .i64, .flt, .flt, .flt, .flt, .flt, .flt, .flt, .flt, .flt, .flt, .flt, .int .i64] (.node 46 [.flt, .flt, .flt, .flt, .flt, .flt, .flt, .flt, .flt] (.node 48 [.flt, .flt, .flt, .flt, .flt, .flt, .flt, .flt, .flt, .flt, .flt, .flt] (.node 54 [.flt, .flt, .flt, .flt, .flt, .flt] (.node 76 [.flt, .flt, .flt, .int .i64, .int .i64, .int .i64, .flt, .flt, .flt] (.node 90 [.flt, .flt, .flt, .flt] (.node 91 [.flt, .flt, .flt] (.node 92 [.flt, .flt, .flt, .flt, .flt, .flt, .flt, .flt, .flt] (.node 97 [.flt, .flt, .bool] (.node 110 [.flt, .flt, .flt, .flt] (.node 112 [.flt, .flt, .flt, .flt, .flt, .flt] (.node 114 [.flt, .flt, .flt, .flt, .flt, .flt, .flt, .flt, .flt] (.node 116 [.flt, .flt, .flt, .flt, .flt, .flt, .flt] (.node 118 [.flt, .flt, .flt, .flt, .flt, .flt, .flt] (.node 120 [.flt, .flt, .flt, .flt, .flt, .flt, .flt, .flt] (.node 145 [.int .i64, .int .i64, .int .i64] (.node 196 [.int .i64, .int .i64, .int .i64, .int .i64, .int .i64, .int .i64, .int .i64, .int .i64] (.node 383 [.int .u8, .int .u8, .int .u8, .int .u8, .int .u8, .int .u8, .int .u8, .int .u8, .int .u8, .int .u8, .int .u8, .int .u8, .int .u8, .int .u8, .int .u8, .int .u8, .int .u8, .int .u8, .int .u8, .int .u8, .int .u8, .int .u8, .int .u8, .int .u8, .int .u8, .int .u8, .int .u8, .int .u8, .int .u8, .int .u8, .int .u8, .int .u8] (.nil))))))))))))))))))))
def mts : MT :=
  .node 76 "rayhouse/shape.edge" 38 (.node 76 "rayhouse/shape.place" 72 (.node 110 "rayhouse/shape.bounds" 161 (.node 110 "rayhouse/shape.normal" 162 (.node 110 "rayhouse/shape.strike" 163 (.node 110 "rayhouse/shape.within" 165 (.node 112 "rayhouse/shape.bounds" 167 (.node 112 "rayhouse/shape.normal" 168 (.node 112 "rayhouse/shape.strike" 169 (.node 114 "rayhouse/shape.bounds" 170 (.node 114 "rayhouse/shape.normal" 171 (.node 114 "rayhouse/shape.strike" 172 (.node 116 "rayhouse/shape.bounds" 173 (.node 116 "rayhouse/shape.normal" 174 (.node 116 "rayhouse/shape.strike" 175 (.node 118 "rayhouse/shape.bounds" 176 (.node 118 "rayhouse/shape.normal" 177 (.node 118 "rayhouse/shape.strike" 178 (.node 118 "rayhouse/shape.within" 180 (.node 120 "rayhouse/shape.bounds" 182 (.node 120 "rayhouse/shape.normal" 183 (.node 120 "rayhouse/shape.strike" 184 (.nil))))))))))))))))))))))
def cx : Cx := ⟨tree.get, eqs.get, mts.get⟩
theorem mts_ok : mts.okB Tryz.prog = true := by kernel_rfl
theorem eqs_ok : eqs.okB Tryz.prog = true := by kernel_rfl
theorem tree_ok : tree.okB Tryz.prog = true := by kernel_rfl
theorem cx_ok : cx.ok Tryz.prog := ⟨TT.ok tree tree_ok, ET.ok eqs eqs_ok, MT.ok mts mts_ok⟩
theorem s1 : (cx.ti 1).size = 1 := rfl
theorem b1 : (cx.ti 1).bytes = 8 := rfl
theorem s2 : (cx.ti 2).size = 1 := rfl
theorem b2 : (cx.ti 2).bytes = 8 := rfl
theorem s3 : (cx.ti 3).size = 1 := rfl
theorem b3 : (cx.ti 3).bytes = 8 := rfl
theorem s4 : (cx.ti 4).size = 1 := rfl
theorem b4 : (cx.ti 4).bytes = 1 := rfl
theorem s5 : (cx.ti 5).size = 1 := rfl
theorem b5 : (cx.ti 5).bytes = 1 := rfl
theorem s6 : (cx.ti 6).size = 1 := rfl
theorem b6 : (cx.ti 6).bytes = 1 := rfl
theorem s7 : (cx.ti 7).size = 4 := rfl
theorem b7 : (cx.ti 7).bytes = 24 := rfl
theorem s8 : (cx.ti 8).size = 4 := rfl
theorem b8 : (cx.ti 8).bytes = 24 := rfl
theorem s9 : (cx.ti 9).size = 1 := rfl
theorem b9 : (cx.ti 9).bytes = 16 := rfl
theorem s10 : (cx.ti 10).size = 1 := rfl
theorem b10 : (cx.ti 10).bytes = 16 := rfl
theorem s11 : (cx.ti 11).size = 1 := rfl
theorem b11 : (cx.ti 11).bytes = 16 := rfl
theorem s12 : (cx.ti 12).size = 1 := rfl
theorem b12 : (cx.ti 12).bytes = 8 := rfl
theorem s13 : (cx.ti 13).size = 2 := rfl
theorem b13 : (cx.ti 13).bytes = 24 := rfl
theorem s14 : (cx.ti 14).size = 2 := rfl
theorem b14 : (cx.ti 14).bytes = 24 := rfl
theorem s15 : (cx.ti 15).size = 1 := rfl
theorem b15 : (cx.ti 15).bytes = 8 := rfl
theorem s16 : (cx.ti 16).size = 1 := rfl
theorem b16 : (cx.ti 16).bytes = 8 := rfl
theorem s17 : (cx.ti 17).size = 1 := rfl
theorem b17 : (cx.ti 17).bytes = 8 := rfl
theorem s18 : (cx.ti 18).size = 1 := rfl
theorem b18 : (cx.ti 18).bytes = 8 := rfl
theorem s19 : (cx.ti 19).size = 1 := rfl
theorem b19 : (cx.ti 19).bytes = 8 := rfl
theorem s20 : (cx.ti 20).size = 1 := rfl
theorem b20 : (cx.ti 20).bytes = 16 := rfl
theorem s21 : (cx.ti 21).size = 1 := rfl
theorem b21 : (cx.ti 21).bytes = 4 := rfl
theorem s22 : (cx.ti 22).size = 1 := rfl
theorem b22 : (cx.ti 22).bytes = 8 := rfl
theorem s23 : (cx.ti 23).size = 3 := rfl
theorem b23 : (cx.ti 23).bytes = 24 := rfl
theorem s24 : (cx.ti 24).size = 3 := rfl
theorem b24 : (cx.ti 24).bytes = 24 := rfl
theorem s25 : (cx.ti 25).size = 7 := rfl
theorem b25 : (cx.ti 25).bytes = 56 := rfl
theorem s26 : (cx.ti 26).size = 7 := rfl
theorem b26 : (cx.ti 26).bytes = 56 := rfl
theorem s27 : (cx.ti 27).size = 1 := rfl
theorem b27 : (cx.ti 27).bytes = 8 := rfl
theorem s28 : (cx.ti 28).size = 1 := rfl
theorem b28 : (cx.ti 28).bytes = 8 := rfl
theorem s30 : (cx.ti 30).size = 1 := rfl
theorem b30 : (cx.ti 30).bytes = 8 := rfl
theorem s32 : (cx.ti 32).size = 1 := rfl
theorem b32 : (cx.ti 32).bytes = 8 := rfl
theorem s33 : (cx.ti 33).size = 1 := rfl
theorem b33 : (cx.ti 33).bytes = 8 := rfl
theorem s34 : (cx.ti 34).size = 1 := rfl
theorem b34 : (cx.ti 34).bytes = 24 := rfl
theorem s35 : (cx.ti 35).size = 1 := rfl
theorem b35 : (cx.ti 35).bytes = 24 := rfl
theorem s36 : (cx.ti 36).size = 1 := rfl
theorem b36 : (cx.ti 36).bytes = 8 := rfl
theorem s37 : (cx.ti 37).size = 13 := rfl
theorem b37 : (cx.ti 37).bytes = 104 := rfl
theorem s38 : (cx.ti 38).size = 13 := rfl
theorem b38 : (cx.ti 38).bytes = 104 := rfl
theorem s39 : (cx.ti 39).size = 1 := rfl
theorem b39 : (cx.ti 39).bytes = 8 := rfl
theorem s40 : (cx.ti 40).size = 1 := rfl
theorem b40 : (cx.ti 40).bytes = 8 := rfl
theorem s41 : (cx.ti 41).size = 1 := rfl
theorem b41 : (cx.ti 41).bytes = 8 := rfl
theorem s43 : (cx.ti 43).size = 1 := rfl
theorem b43 : (cx.ti 43).bytes = 8 := rfl
theorem s44 : (cx.ti 44).size = 1 := rfl
theorem b44 : (cx.ti 44).bytes = 8 := rfl
theorem s45 : (cx.ti 45).size = 1 := rfl
theorem b45 : (cx.ti 45).bytes = 8 := rfl
theorem s46 : (cx.ti 46).size = 9 := rfl
theorem b46 : (cx.ti 46).bytes = 72 := rfl
theorem s47 : (cx.ti 47).size = 12 := rfl
theorem b47 : (cx.ti 47).bytes = 96 := rfl
theorem s48 : (cx.ti 48).size = 12 := rfl
theorem b48 : (cx.ti 48).bytes = 96 := rfl
theorem s50 : (cx.ti 50).size = 1 := rfl
theorem b50 : (cx.ti 50).bytes = 8 := rfl
theorem s51 : (cx.ti 51).size = 1 := rfl
theorem b51 : (cx.ti 51).bytes = 8 := rfl
theorem s52 : (cx.ti 52).size = 1 := rfl
theorem b52 : (cx.ti 52).bytes = 8 := rfl
theorem s53 : (cx.ti 53).size = 6 := rfl
theorem b53 : (cx.ti 53).bytes = 48 := rfl
theorem s54 : (cx.ti 54).size = 6 := rfl
theorem b54 : (cx.ti 54).bytes = 48 := rfl
theorem s56 : (cx.ti 56).size = 1 := rfl
theorem b56 : (cx.ti 56).bytes = 8 := rfl
theorem s57 : (cx.ti 57).size = 1 := rfl
theorem b57 : (cx.ti 57).bytes = 8 := rfl
theorem s58 : (cx.ti 58).size = 1 := rfl
theorem b58 : (cx.ti 58).bytes = 8 := rfl
theorem s59 : (cx.ti 59).size = 1 := rfl
theorem b59 : (cx.ti 59).bytes = 8 := rfl
theorem s60 : (cx.ti 60).size = 8 := rfl
theorem b60 : (cx.ti 60).bytes = 80 := rfl
theorem s61 : (cx.ti 61).size = 8 := rfl
theorem b61 : (cx.ti 61).bytes = 80 := rfl
theorem s63 : (cx.ti 63).size = 1 := rfl
theorem b63 : (cx.ti 63).bytes = 8 := rfl
theorem s64 : (cx.ti 64).size = 1 := rfl
theorem b64 : (cx.ti 64).bytes = 8 := rfl
theorem s65 : (cx.ti 65).size = 1 := rfl
theorem b65 : (cx.ti 65).bytes = 8 := rfl
theorem s66 : (cx.ti 66).size = 1 := rfl
theorem b66 : (cx.ti 66).bytes = 24 := rfl
theorem s68 : (cx.ti 68).size = 1 := rfl
theorem b68 : (cx.ti 68).bytes = 8 := rfl
theorem s70 : (cx.ti 70).size = 1 := rfl
theorem b70 : (cx.ti 70).bytes = 8 := rfl
theorem s71 : (cx.ti 71).size = 1 := rfl
theorem b71 : (cx.ti 71).bytes = 8 := rfl
theorem s72 : (cx.ti 72).size = 1 := rfl
theorem b72 : (cx.ti 72).bytes = 8 := rfl
theorem s73 : (cx.ti 73).size = 1 := rfl
theorem b73 : (cx.ti 73).bytes = 8 := rfl
theorem s74 : (cx.ti 74).size = 1 := rfl
theorem b74 : (cx.ti 74).bytes = 8 := rfl
theorem s75 : (cx.ti 75).size = 9 := rfl
theorem b75 : (cx.ti 75).bytes = 72 := rfl
theorem s76 : (cx.ti 76).size = 9 := rfl
theorem b76 : (cx.ti 76).bytes = 72 := rfl
theorem s77 : (cx.ti 77).size = 1 := rfl
theorem b77 : (cx.ti 77).bytes = 8 := rfl
theorem s78 : (cx.ti 78).size = 1 := rfl
theorem b78 : (cx.ti 78).bytes = 8 := rfl
theorem s80 : (cx.ti 80).size = 1 := rfl
theorem b80 : (cx.ti 80).bytes = 8 := rfl
theorem s81 : (cx.ti 81).size = 1 := rfl
theorem b81 : (cx.ti 81).bytes = 8 := rfl
theorem s82 : (cx.ti 82).size = 1 := rfl
theorem b82 : (cx.ti 82).bytes = 8 := rfl
theorem s83 : (cx.ti 83).size = 1 := rfl
theorem b83 : (cx.ti 83).bytes = 8 := rfl
theorem s84 : (cx.ti 84).size = 1 := rfl
theorem b84 : (cx.ti 84).bytes = 8 := rfl
theorem s85 : (cx.ti 85).size = 1 := rfl
theorem b85 : (cx.ti 85).bytes = 16 := rfl
theorem s86 : (cx.ti 86).size = 1 := rfl
theorem b86 : (cx.ti 86).bytes = 16 := rfl
theorem s88 : (cx.ti 88).size = 1 := rfl
theorem b88 : (cx.ti 88).bytes = 8 := rfl
theorem s89 : (cx.ti 89).size = 1 := rfl
theorem b89 : (cx.ti 89).bytes = 8 := rfl
theorem s90 : (cx.ti 90).size = 4 := rfl
theorem b90 : (cx.ti 90).bytes = 32 := rfl
theorem s91 : (cx.ti 91).size = 3 := rfl
theorem b91 : (cx.ti 91).bytes = 24 := rfl
theorem s92 : (cx.ti 92).size = 9 := rfl
theorem b92 : (cx.ti 92).bytes = 72 := rfl
theorem s93 : (cx.ti 93).size = 1 := rfl
theorem b93 : (cx.ti 93).bytes = 8 := rfl
theorem s94 : (cx.ti 94).size = 1 := rfl
theorem b94 : (cx.ti 94).bytes = 8 := rfl
theorem s95 : (cx.ti 95).size = 1 := rfl
theorem b95 : (cx.ti 95).bytes = 8 := rfl
theorem s96 : (cx.ti 96).size = 3 := rfl
theorem b96 : (cx.ti 96).bytes = 24 := rfl
theorem s97 : (cx.ti 97).size = 3 := rfl
theorem b97 : (cx.ti 97).bytes = 24 := rfl
theorem s98 : (cx.ti 98).size = 1 := rfl
theorem b98 : (cx.ti 98).bytes = 8 := rfl
theorem s99 : (cx.ti 99).size = 1 := rfl
theorem b99 : (cx.ti 99).bytes = 8 := rfl
theorem s100 : (cx.ti 100).size = 1 := rfl
theorem b100 : (cx.ti 100).bytes = 8 := rfl
theorem s101 : (cx.ti 101).size = 1 := rfl
theorem b101 : (cx.ti 101).bytes = 8 := rfl
theorem s102 : (cx.ti 102).size = 1 := rfl
theorem b102 : (cx.ti 102).bytes = 8 := rfl
theorem s103 : (cx.ti 103).size = 1 := rfl
theorem b103 : (cx.ti 103).bytes = 8 := rfl
theorem s104 : (cx.ti 104).size = 1 := rfl
theorem b104 : (cx.ti 104).bytes = 8 := rfl
theorem s105 : (cx.ti 105).size = 1 := rfl
theorem b105 : (cx.ti 105).bytes = 8 := rfl
theorem s107 : (cx.ti 107).size = 1 := rfl
theorem b107 : (cx.ti 107).bytes = 8 := rfl
theorem s108 : (cx.ti 108).size = 1 := rfl
theorem b108 : (cx.ti 108).bytes = 8 := rfl
theorem s109 : (cx.ti 109).size = 4 := rfl
theorem b109 : (cx.ti 109).bytes = 32 := rfl
theorem s110 : (cx.ti 110).size = 4 := rfl
theorem b110 : (cx.ti 110).bytes = 32 := rfl
theorem s111 : (cx.ti 111).size = 6 := rfl
theorem b111 : (cx.ti 111).bytes = 48 := rfl
theorem s112 : (cx.ti 112).size = 6 := rfl
theorem b112 : (cx.ti 112).bytes = 48 := rfl
theorem s113 : (cx.ti 113).size = 9 := rfl
theorem b113 : (cx.ti 113).bytes = 72 := rfl
theorem s114 : (cx.ti 114).size = 9 := rfl
theorem b114 : (cx.ti 114).bytes = 72 := rfl
theorem s115 : (cx.ti 115).size = 7 := rfl
theorem b115 : (cx.ti 115).bytes = 56 := rfl
theorem s116 : (cx.ti 116).size = 7 := rfl
theorem b116 : (cx.ti 116).bytes = 56 := rfl
theorem s117 : (cx.ti 117).size = 7 := rfl
theorem b117 : (cx.ti 117).bytes = 56 := rfl
theorem s118 : (cx.ti 118).size = 7 := rfl
theorem b118 : (cx.ti 118).bytes = 56 := rfl
theorem s119 : (cx.ti 119).size = 8 := rfl
theorem b119 : (cx.ti 119).bytes = 64 := rfl
theorem s120 : (cx.ti 120).size = 8 := rfl
theorem b120 : (cx.ti 120).bytes = 64 := rfl
theorem s121 : (cx.ti 121).size = 1 := rfl
theorem b121 : (cx.ti 121).bytes = 8 := rfl
theorem s122 : (cx.ti 122).size = 1 := rfl
theorem b122 : (cx.ti 122).bytes = 8 := rfl
theorem s123 : (cx.ti 123).size = 1 := rfl
theorem b123 : (cx.ti 123).bytes = 8 := rfl
theorem s124 : (cx.ti 124).size = 1 := rfl
theorem b124 : (cx.ti 124).bytes = 8 := rfl
theorem s125 : (cx.ti 125).size = 1 := rfl
theorem b125 : (cx.ti 125).bytes = 8 := rfl
theorem s126 : (cx.ti 126).size = 1 := rfl
theorem b126 : (cx.ti 126).bytes = 8 := rfl
theorem s127 : (cx.ti 127).size = 1 := rfl
theorem b127 : (cx.ti 127).bytes = 8 := rfl
theorem s128 : (cx.ti 128).size = 1 := rfl
theorem b128 : (cx.ti 128).bytes = 8 := rfl
theorem s129 : (cx.ti 129).size = 1 := rfl
theorem b129 : (cx.ti 129).bytes = 8 := rfl
theorem s130 : (cx.ti 130).size = 1 := rfl
theorem b130 : (cx.ti 130).bytes = 8 := rfl
theorem s135 : (cx.ti 135).size = 1 := rfl
theorem b135 : (cx.ti 135).bytes = 8 := rfl
theorem s137 : (cx.ti 137).size = 1 := rfl
theorem b137 : (cx.ti 137).bytes = 8 := rfl
theorem s139 : (cx.ti 139).size = 1 := rfl
theorem b139 : (cx.ti 139).bytes = 8 := rfl
theorem s140 : (cx.ti 140).size = 1 := rfl
theorem b140 : (cx.ti 140).bytes = 8 := rfl
theorem s141 : (cx.ti 141).size = 1 := rfl
theorem b141 : (cx.ti 141).bytes = 8 := rfl
theorem s142 : (cx.ti 142).size = 1 := rfl
theorem b142 : (cx.ti 142).bytes = 8 := rfl
theorem s143 : (cx.ti 143).size = 1 := rfl
theorem b143 : (cx.ti 143).bytes = 8 := rfl
theorem s144 : (cx.ti 144).size = 1 := rfl
theorem b144 : (cx.ti 144).bytes = 8 := rfl
theorem s145 : (cx.ti 145).size = 3 := rfl
theorem b145 : (cx.ti 145).bytes = 24 := rfl
theorem s146 : (cx.ti 146).size = 1 := rfl
theorem b146 : (cx.ti 146).bytes = 8 := rfl
theorem s148 : (cx.ti 148).size = 1 := rfl
theorem b148 : (cx.ti 148).bytes = 8 := rfl
theorem s149 : (cx.ti 149).size = 1 := rfl
theorem b149 : (cx.ti 149).bytes = 8 := rfl
theorem s150 : (cx.ti 150).size = 1 := rfl
theorem b150 : (cx.ti 150).bytes = 8 := rfl
theorem s151 : (cx.ti 151).size = 1 := rfl
theorem b151 : (cx.ti 151).bytes = 24 := rfl
theorem s152 : (cx.ti 152).size = 2 := rfl
theorem b152 : (cx.ti 152).bytes = 32 := rfl
theorem s153 : (cx.ti 153).size = 2 := rfl
theorem b153 : (cx.ti 153).bytes = 32 := rfl
theorem s154 : (cx.ti 154).size = 1 := rfl
theorem b154 : (cx.ti 154).bytes = 8 := rfl
theorem s155 : (cx.ti 155).size = 1 := rfl
theorem b155 : (cx.ti 155).bytes = 8 := rfl
theorem s156 : (cx.ti 156).size = 1 := rfl
theorem b156 : (cx.ti 156).bytes = 8 := rfl
theorem s157 : (cx.ti 157).size = 1 := rfl
theorem b157 : (cx.ti 157).bytes = 8 := rfl
theorem s158 : (cx.ti 158).size = 1 := rfl
theorem b158 : (cx.ti 158).bytes = 8 := rfl
theorem s159 : (cx.ti 159).size = 1 := rfl
theorem b159 : (cx.ti 159).bytes = 8 := rfl
theorem s160 : (cx.ti 160).size = 1 := rfl
theorem b160 : (cx.ti 160).bytes = 8 := rfl
theorem s161 : (cx.ti 161).size = 1 := rfl
theorem b161 : (cx.ti 161).bytes = 8 := rfl
theorem s162 : (cx.ti 162).size = 1 := rfl
theorem b162 : (cx.ti 162).bytes = 8 := rfl
theorem s163 : (cx.ti 163).size = 1 := rfl
theorem b163 : (cx.ti 163).bytes = 8 := rfl
theorem s164 : (cx.ti 164).size = 1 := rfl
theorem b164 : (cx.ti 164).bytes = 24 := rfl
theorem s165 : (cx.ti 165).size = 1 := rfl
theorem b165 : (cx.ti 165).bytes = 8 := rfl
theorem s166 : (cx.ti 166).size = 1 := rfl
theorem b166 : (cx.ti 166).bytes = 8 := rfl
theorem s167 : (cx.ti 167).size = 1 := rfl
theorem b167 : (cx.ti 167).bytes = 8 := rfl
theorem s168 : (cx.ti 168).size = 1 := rfl
theorem b168 : (cx.ti 168).bytes = 8 := rfl
theorem s170 : (cx.ti 170).size = 1 := rfl
theorem b170 : (cx.ti 170).bytes = 8 := rfl
theorem s172 : (cx.ti 172).size = 1 := rfl
theorem b172 : (cx.ti 172).bytes = 8 := rfl
theorem s173 : (cx.ti 173).size = 1 := rfl
theorem b173 : (cx.ti 173).bytes = 8 := rfl
theorem s174 : (cx.ti 174).size = 1 := rfl
theorem b174 : (cx.ti 174).bytes = 8 := rfl
theorem s175 : (cx.ti 175).size = 1 := rfl
theorem b175 : (cx.ti 175).bytes = 8 := rfl
theorem s176 : (cx.ti 176).size = 4 := rfl
theorem b176 : (cx.ti 176).bytes = 40 := rfl
theorem s177 : (cx.ti 177).size = 4 := rfl
theorem b177 : (cx.ti 177).bytes = 40 := rfl
theorem s178 : (cx.ti 178).size = 0 := rfl
theorem b178 : (cx.ti 178).bytes = 0 := rfl
theorem s179 : (cx.ti 179).size = 0 := rfl
theorem b179 : (cx.ti 179).bytes = 0 := rfl
theorem s180 : (cx.ti 180).size = 0 := rfl
theorem b180 : (cx.ti 180).bytes = 0 := rfl
theorem s181 : (cx.ti 181).size = 1 := rfl
theorem b181 : (cx.ti 181).bytes = 8 := rfl
theorem s182 : (cx.ti 182).size = 1 := rfl
theorem b182 : (cx.ti 182).bytes = 4 := rfl
theorem s183 : (cx.ti 183).size = 1 := rfl
theorem b183 : (cx.ti 183).bytes = 1 := rfl
theorem s184 : (cx.ti 184).size = 1 := rfl
theorem b184 : (cx.ti 184).bytes = 1 := rfl
theorem s185 : (cx.ti 185).size = 1 := rfl
theorem b185 : (cx.ti 185).bytes = 8 := rfl
theorem s186 : (cx.ti 186).size = 1 := rfl
theorem b186 : (cx.ti 186).bytes = 8 := rfl
theorem s187 : (cx.ti 187).size = 1 := rfl
theorem b187 : (cx.ti 187).bytes = 4 := rfl
theorem s188 : (cx.ti 188).size = 1 := rfl
theorem b188 : (cx.ti 188).bytes = 4 := rfl
theorem s189 : (cx.ti 189).size = 11 := rfl
theorem b189 : (cx.ti 189).bytes = 48 := rfl
theorem s190 : (cx.ti 190).size = 11 := rfl
theorem b190 : (cx.ti 190).bytes = 48 := rfl
theorem s191 : (cx.ti 191).size = 1 := rfl
theorem b191 : (cx.ti 191).bytes = 8 := rfl
theorem s192 : (cx.ti 192).size = 1 := rfl
theorem b192 : (cx.ti 192).bytes = 8 := rfl
theorem s193 : (cx.ti 193).size = 1 := rfl
theorem b193 : (cx.ti 193).bytes = 8 := rfl
theorem s194 : (cx.ti 194).size = 1 := rfl
theorem b194 : (cx.ti 194).bytes = 8 := rfl
theorem s195 : (cx.ti 195).size = 1 := rfl
theorem b195 : (cx.ti 195).bytes = 8 := rfl
theorem s196 : (cx.ti 196).size = 8 := rfl
theorem b196 : (cx.ti 196).bytes = 64 := rfl
theorem s197 : (cx.ti 197).size = 1 := rfl
theorem b197 : (cx.ti 197).bytes = 24 := rfl
theorem s198 : (cx.ti 198).size = 1 := rfl
theorem b198 : (cx.ti 198).bytes = 24 := rfl
theorem s199 : (cx.ti 199).size = 1 := rfl
theorem b199 : (cx.ti 199).bytes = 8 := rfl
theorem s200 : (cx.ti 200).size = 1 := rfl
theorem b200 : (cx.ti 200).bytes = 8 := rfl
theorem s201 : (cx.ti 201).size = 1 := rfl
theorem b201 : (cx.ti 201).bytes = 8 := rfl
theorem s202 : (cx.ti 202).size = 1 := rfl
theorem b202 : (cx.ti 202).bytes = 8 := rfl
theorem s203 : (cx.ti 203).size = 1 := rfl
theorem b203 : (cx.ti 203).bytes = 8 := rfl
theorem s204 : (cx.ti 204).size = 1 := rfl
theorem b204 : (cx.ti 204).bytes = 24 := rfl
theorem s205 : (cx.ti 205).size = 1 := rfl
theorem b205 : (cx.ti 205).bytes = 8 := rfl
theorem s206 : (cx.ti 206).size = 1 := rfl
theorem b206 : (cx.ti 206).bytes = 24 := rfl
theorem s207 : (cx.ti 207).size = 2 := rfl
theorem b207 : (cx.ti 207).bytes = 32 := rfl
theorem s208 : (cx.ti 208).size = 2 := rfl
theorem b208 : (cx.ti 208).bytes = 32 := rfl
theorem s209 : (cx.ti 209).size = 1 := rfl
theorem b209 : (cx.ti 209).bytes = 8 := rfl
theorem s210 : (cx.ti 210).size = 1 := rfl
theorem b210 : (cx.ti 210).bytes = 8 := rfl
theorem s211 : (cx.ti 211).size = 1 := rfl
theorem b211 : (cx.ti 211).bytes = 8 := rfl
theorem s212 : (cx.ti 212).size = 1 := rfl
theorem b212 : (cx.ti 212).bytes = 8 := rfl
theorem s213 : (cx.ti 213).size = 1 := rfl
theorem b213 : (cx.ti 213).bytes = 24 := rfl
theorem s214 : (cx.ti 214).size = 1 := rfl
theorem b214 : (cx.ti 214).bytes = 8 := rfl
theorem s215 : (cx.ti 215).size = 2 := rfl
theorem b215 : (cx.ti 215).bytes = 48 := rfl
theorem s216 : (cx.ti 216).size = 2 := rfl
theorem b216 : (cx.ti 216).bytes = 48 := rfl
theorem s217 : (cx.ti 217).size = 1 := rfl
theorem b217 : (cx.ti 217).bytes = 8 := rfl
theorem s218 : (cx.ti 218).size = 1 := rfl
theorem b218 : (cx.ti 218).bytes = 8 := rfl
theorem s219 : (cx.ti 219).size = 1 := rfl
theorem b219 : (cx.ti 219).bytes = 8 := rfl
theorem s220 : (cx.ti 220).size = 1 := rfl
theorem b220 : (cx.ti 220).bytes = 8 := rfl
theorem s221 : (cx.ti 221).size = 1 := rfl
theorem b221 : (cx.ti 221).bytes = 8 := rfl
theorem s222 : (cx.ti 222).size = 1 := rfl
theorem b222 : (cx.ti 222).bytes = 8 := rfl
theorem s223 : (cx.ti 223).size = 1 := rfl
theorem b223 : (cx.ti 223).bytes = 8 := rfl
theorem s225 : (cx.ti 225).size = 1 := rfl
theorem b225 : (cx.ti 225).bytes = 8 := rfl
theorem s226 : (cx.ti 226).size = 1 := rfl
theorem b226 : (cx.ti 226).bytes = 8 := rfl
theorem s227 : (cx.ti 227).size = 1 := rfl
theorem b227 : (cx.ti 227).bytes = 8 := rfl
theorem s228 : (cx.ti 228).size = 1 := rfl
theorem b228 : (cx.ti 228).bytes = 8 := rfl
theorem s229 : (cx.ti 229).size = 1 := rfl
theorem b229 : (cx.ti 229).bytes = 8 := rfl
theorem s230 : (cx.ti 230).size = 1 := rfl
theorem b230 : (cx.ti 230).bytes = 8 := rfl
theorem s231 : (cx.ti 231).size = 1 := rfl
theorem b231 : (cx.ti 231).bytes = 8 := rfl
theorem s232 : (cx.ti 232).size = 1 := rfl
theorem b232 : (cx.ti 232).bytes = 8 := rfl
theorem s233 : (cx.ti 233).size = 1 := rfl
theorem b233 : (cx.ti 233).bytes = 8 := rfl
theorem s235 : (cx.ti 235).size = 1 := rfl
theorem b235 : (cx.ti 235).bytes = 8 := rfl
theorem s236 : (cx.ti 236).size = 1 := rfl
theorem b236 : (cx.ti 236).bytes = 8 := rfl
theorem s237 : (cx.ti 237).size = 1 := rfl
theorem b237 : (cx.ti 237).bytes = 8 := rfl
theorem s238 : (cx.ti 238).size = 1 := rfl
theorem b238 : (cx.ti 238).bytes = 8 := rfl
theorem s239 : (cx.ti 239).size = 1 := rfl
theorem b239 : (cx.ti 239).bytes = 8 := rfl
theorem s241 : (cx.ti 241).size = 1 := rfl
theorem b241 : (cx.ti 241).bytes = 8 := rfl
theorem s242 : (cx.ti 242).size = 1 := rfl
theorem b242 : (cx.ti 242).bytes = 8 := rfl
theorem s243 : (cx.ti 243).size = 1 := rfl
theorem b243 : (cx.ti 243).bytes = 8 := rfl
theorem s244 : (cx.ti 244).size = 1 := rfl
theorem b244 : (cx.ti 244).bytes = 8 := rfl
theorem s246 : (cx.ti 246).size = 1 := rfl
theorem b246 : (cx.ti 246).bytes = 8 := rfl
theorem s248 : (cx.ti 248).size = 1 := rfl
theorem b248 : (cx.ti 248).bytes = 8 := rfl
theorem s250 : (cx.ti 250).size = 1 := rfl
theorem b250 : (cx.ti 250).bytes = 8 := rfl
theorem s251 : (cx.ti 251).size = 1 := rfl
theorem b251 : (cx.ti 251).bytes = 8 := rfl
theorem s252 : (cx.ti 252).size = 1 := rfl
theorem b252 : (cx.ti 252).bytes = 8 := rfl
theorem s253 : (cx.ti 253).size = 1 := rfl
theorem b253 : (cx.ti 253).bytes = 8 := rfl
theorem s254 : (cx.ti 254).size = 1 := rfl
theorem b254 : (cx.ti 254).bytes = 8 := rfl
theorem s255 : (cx.ti 255).size = 1 := rfl
theorem b255 : (cx.ti 255).bytes = 8 := rfl
theorem s256 : (cx.ti 256).size = 1 := rfl
theorem b256 : (cx.ti 256).bytes = 8 := rfl
theorem s257 : (cx.ti 257).size = 1 := rfl
theorem b257 : (cx.ti 257).bytes = 8 := rfl
theorem s258 : (cx.ti 258).size = 1 := rfl
theorem b258 : (cx.ti 258).bytes = 8 := rfl
theorem s259 : (cx.ti 259).size = 1 := rfl
theorem b259 : (cx.ti 259).bytes = 8 := rfl
theorem s261 : (cx.ti 261).size = 1 := rfl
theorem b261 : (cx.ti 261).bytes = 8 := rfl
theorem s262 : (cx.ti 262).size = 1 := rfl
theorem b262 : (cx.ti 262).bytes = 8 := rfl
theorem s264 : (cx.ti 264).size = 1 := rfl
theorem b264 : (cx.ti 264).bytes = 8 := rfl
theorem s265 : (cx.ti 265).size = 1 := rfl
theorem b265 : (cx.ti 265).bytes = 8 := rfl
theorem s267 : (cx.ti 267).size = 1 := rfl
theorem b267 : (cx.ti 267).bytes = 8 := rfl
theorem s268 : (cx.ti 268).size = 1 := rfl
theorem b268 : (cx.ti 268).bytes = 8 := rfl
theorem s269 : (cx.ti 269).size = 1 := rfl
theorem b269 : (cx.ti 269).bytes = 8 := rfl
theorem s270 : (cx.ti 270).size = 1 := rfl
theorem b270 : (cx.ti 270).bytes = 8 := rfl
theorem s271 : (cx.ti 271).size = 1 := rfl
theorem b271 : (cx.ti 271).bytes = 8 := rfl
theorem s272 : (cx.ti 272).size = 1 := rfl
theorem b272 : (cx.ti 272).bytes = 8 := rfl
theorem s273 : (cx.ti 273).size = 1 := rfl
theorem b273 : (cx.ti 273).bytes = 8 := rfl
theorem s274 : (cx.ti 274).size = 1 := rfl
theorem b274 : (cx.ti 274).bytes = 8 := rfl
theorem s275 : (cx.ti 275).size = 1 := rfl
theorem b275 : (cx.ti 275).bytes = 8 := rfl
theorem s276 : (cx.ti 276).size = 1 := rfl
theorem b276 : (cx.ti 276).bytes = 8 := rfl
theorem s277 : (cx.ti 277).size = 1 := rfl
theorem b277 : (cx.ti 277).bytes = 8 := rfl
theorem s278 : (cx.ti 278).size = 1 := rfl
theorem b278 : (cx.ti 278).bytes = 8 := rfl
theorem s280 : (cx.ti 280).size = 0 := rfl
theorem b280 : (cx.ti 280).bytes = 0 := rfl
theorem s281 : (cx.ti 281).size = 0 := rfl
theorem b281 : (cx.ti 281).bytes = 0 := rfl
theorem s283 : (cx.ti 283).size = 1 := rfl
theorem b283 : (cx.ti 283).bytes = 8 := rfl
theorem s284 : (cx.ti 284).size = 5 := rfl
theorem b284 : (cx.ti 284).bytes = 40 := rfl
theorem s285 : (cx.ti 285).size = 5 := rfl
theorem b285 : (cx.ti 285).bytes = 40 := rfl
theorem s286 : (cx.ti 286).size = 1 := rfl
theorem b286 : (cx.ti 286).bytes = 24 := rfl
theorem s287 : (cx.ti 287).size = 1 := rfl
theorem b287 : (cx.ti 287).bytes = 24 := rfl
theorem s288 : (cx.ti 288).size = 1 := rfl
theorem b288 : (cx.ti 288).bytes = 8 := rfl
theorem s290 : (cx.ti 290).size = 1 := rfl
theorem b290 : (cx.ti 290).bytes = 8 := rfl
theorem s291 : (cx.ti 291).size = 1 := rfl
theorem b291 : (cx.ti 291).bytes = 8 := rfl
theorem s292 : (cx.ti 292).size = 1 := rfl
theorem b292 : (cx.ti 292).bytes = 8 := rfl
theorem s293 : (cx.ti 293).size = 1 := rfl
theorem b293 : (cx.ti 293).bytes = 8 := rfl
theorem s294 : (cx.ti 294).size = 1 := rfl
theorem b294 : (cx.ti 294).bytes = 8 := rfl
theorem s295 : (cx.ti 295).size = 1 := rfl
theorem b295 : (cx.ti 295).bytes = 8 := rfl
theorem s296 : (cx.ti 296).size = 1 := rfl
theorem b296 : (cx.ti 296).bytes = 8 := rfl
theorem s297 : (cx.ti 297).size = 1 := rfl
theorem b297 : (cx.ti 297).bytes = 8 := rfl
theorem s299 : (cx.ti 299).size = 1 := rfl
theorem b299 : (cx.ti 299).bytes = 8 := rfl
theorem s300 : (cx.ti 300).size = 1 := rfl
theorem b300 : (cx.ti 300).bytes = 8 := rfl
theorem s301 : (cx.ti 301).size = 0 := rfl
theorem b301 : (cx.ti 301).bytes = 0 := rfl
theorem s302 : (cx.ti 302).size = 0 := rfl
theorem b302 : (cx.ti 302).bytes = 0 := rfl
theorem s303 : (cx.ti 303).size = 1 := rfl
theorem b303 : (cx.ti 303).bytes = 8 := rfl
theorem s304 : (cx.ti 304).size = 1 := rfl
theorem b304 : (cx.ti 304).bytes = 8 := rfl
theorem s305 : (cx.ti 305).size = 2 := rfl
theorem b305 : (cx.ti 305).bytes = 16 := rfl
theorem s306 : (cx.ti 306).size = 2 := rfl
theorem b306 : (cx.ti 306).bytes = 16 := rfl
theorem s307 : (cx.ti 307).size = 3 := rfl
theorem b307 : (cx.ti 307).bytes = 32 := rfl
theorem s308 : (cx.ti 308).size = 3 := rfl
theorem b308 : (cx.ti 308).bytes = 32 := rfl
theorem s313 : (cx.ti 313).size = 1 := rfl
theorem b313 : (cx.ti 313).bytes = 8 := rfl
theorem s314 : (cx.ti 314).size = 1 := rfl
theorem b314 : (cx.ti 314).bytes = 8 := rfl
theorem s315 : (cx.ti 315).size = 1 := rfl
theorem b315 : (cx.ti 315).bytes = 8 := rfl
theorem s316 : (cx.ti 316).size = 1 := rfl
theorem b316 : (cx.ti 316).bytes = 8 := rfl
theorem s317 : (cx.ti 317).size = 1 := rfl
theorem b317 : (cx.ti 317).bytes = 16 := rfl
theorem s318 : (cx.ti 318).size = 1 := rfl
theorem b318 : (cx.ti 318).bytes = 16 := rfl
theorem s319 : (cx.ti 319).size = 1 := rfl
theorem b319 : (cx.ti 319).bytes = 8 := rfl
theorem s320 : (cx.ti 320).size = 1 := rfl
theorem b320 : (cx.ti 320).bytes = 8 := rfl
theorem s321 : (cx.ti 321).size = 1 := rfl
theorem b321 : (cx.ti 321).bytes = 8 := rfl
theorem s322 : (cx.ti 322).size = 1 := rfl
theorem b322 : (cx.ti 322).bytes = 8 := rfl
theorem s323 : (cx.ti 323).size = 1 := rfl
theorem b323 : (cx.ti 323).bytes = 8 := rfl
theorem s324 : (cx.ti 324).size = 1 := rfl
theorem b324 : (cx.ti 324).bytes = 8 := rfl
theorem s325 : (cx.ti 325).size = 1 := rfl
theorem b325 : (cx.ti 325).bytes = 8 := rfl
theorem s326 : (cx.ti 326).size = 1 := rfl
theorem b326 : (cx.ti 326).bytes = 8 := rfl
theorem s327 : (cx.ti 327).size = 1 := rfl
theorem b327 : (cx.ti 327).bytes = 8 := rfl
theorem s328 : (cx.ti 328).size = 1 := rfl
theorem b328 : (cx.ti 328).bytes = 8 := rfl
theorem s329 : (cx.ti 329).size = 1 := rfl
theorem b329 : (cx.ti 329).bytes = 8 := rfl
theorem s330 : (cx.ti 330).size = 1 := rfl
theorem b330 : (cx.ti 330).bytes = 8 := rfl
theorem s331 : (cx.ti 331).size = 1 := rfl
theorem b331 : (cx.ti 331).bytes = 8 := rfl
theorem s332 : (cx.ti 332).size = 1 := rfl
theorem b332 : (cx.ti 332).bytes = 8 := rfl
theorem s333 : (cx.ti 333).size = 0 := rfl
theorem b333 : (cx.ti 333).bytes = 0 := rfl
theorem s334 : (cx.ti 334).size = 1 := rfl
theorem b334 : (cx.ti 334).bytes = 8 := rfl
theorem s335 : (cx.ti 335).size = 1 := rfl
theorem b335 : (cx.ti 335).bytes = 8 := rfl
theorem s336 : (cx.ti 336).size = 1 := rfl
theorem b336 : (cx.ti 336).bytes = 24 := rfl
theorem s337 : (cx.ti 337).size = 2 := rfl
theorem b337 : (cx.ti 337).bytes = 32 := rfl
theorem s338 : (cx.ti 338).size = 2 := rfl
theorem b338 : (cx.ti 338).bytes = 32 := rfl
theorem s339 : (cx.ti 339).size = 4 := rfl
theorem b339 : (cx.ti 339).bytes = 48 := rfl
theorem s340 : (cx.ti 340).size = 4 := rfl
theorem b340 : (cx.ti 340).bytes = 48 := rfl
theorem s341 : (cx.ti 341).size = 1 := rfl
theorem b341 : (cx.ti 341).bytes = 8 := rfl
theorem s342 : (cx.ti 342).size = 1 := rfl
theorem b342 : (cx.ti 342).bytes = 8 := rfl
theorem s343 : (cx.ti 343).size = 1 := rfl
theorem b343 : (cx.ti 343).bytes = 8 := rfl
theorem s344 : (cx.ti 344).size = 1 := rfl
theorem b344 : (cx.ti 344).bytes = 8 := rfl
theorem s345 : (cx.ti 345).size = 1 := rfl
theorem b345 : (cx.ti 345).bytes = 24 := rfl
theorem s346 : (cx.ti 346).size = 1 := rfl
theorem b346 : (cx.ti 346).bytes = 8 := rfl
theorem s347 : (cx.ti 347).size = 2 := rfl
theorem b347 : (cx.ti 347).bytes = 8 := rfl
theorem s348 : (cx.ti 348).size = 2 := rfl
theorem b348 : (cx.ti 348).bytes = 8 := rfl
theorem s349 : (cx.ti 349).size = 2 := rfl
theorem b349 : (cx.ti 349).bytes = 8 := rfl
theorem s350 : (cx.ti 350).size = 2 := rfl
theorem b350 : (cx.ti 350).bytes = 8 := rfl
theorem s351 : (cx.ti 351).size = 1 := rfl
theorem b351 : (cx.ti 351).bytes = 24 := rfl
theorem s352 : (cx.ti 352).size = 1 := rfl
theorem b352 : (cx.ti 352).bytes = 8 := rfl
theorem s353 : (cx.ti 353).size = 1 := rfl
theorem b353 : (cx.ti 353).bytes = 24 := rfl
theorem s354 : (cx.ti 354).size = 1 := rfl
theorem b354 : (cx.ti 354).bytes = 8 := rfl
theorem s355 : (cx.ti 355).size = 1 := rfl
theorem b355 : (cx.ti 355).bytes = 8 := rfl
theorem s356 : (cx.ti 356).size = 1 := rfl
theorem b356 : (cx.ti 356).bytes = 8 := rfl
theorem s357 : (cx.ti 357).size = 1 := rfl
theorem b357 : (cx.ti 357).bytes = 8 := rfl
theorem s358 : (cx.ti 358).size = 1 := rfl
theorem b358 : (cx.ti 358).bytes = 8 := rfl
theorem s359 : (cx.ti 359).size = 1 := rfl
theorem b359 : (cx.ti 359).bytes = 8 := rfl
theorem s360 : (cx.ti 360).size = 1 := rfl
theorem b360 : (cx.ti 360).bytes = 8 := rfl
theorem s361 : (cx.ti 361).size = 1 := rfl
theorem b361 : (cx.ti 361).bytes = 8 := rfl
theorem s362 : (cx.ti 362).size = 1 := rfl
theorem b362 : (cx.ti 362).bytes = 16 := rfl
theorem s363 : (cx.ti 363).size = 1 := rfl
theorem b363 : (cx.ti 363).bytes = 16 := rfl
theorem s365 : (cx.ti 365).size = 1 := rfl
theorem b365 : (cx.ti 365).bytes = 8 := rfl
theorem s366 : (cx.ti 366).size = 1 := rfl
theorem b366 : (cx.ti 366).bytes = 24 := rfl
theorem s367 : (cx.ti 367).size = 1 := rfl
theorem b367 : (cx.ti 367).bytes = 8 := rfl
theorem s368 : (cx.ti 368).size = 1 := rfl
theorem b368 : (cx.ti 368).bytes = 8 := rfl
theorem s369 : (cx.ti 369).size = 1 := rfl
theorem b369 : (cx.ti 369).bytes = 8 := rfl
theorem s370 : (cx.ti 370).size = 1 := rfl
theorem b370 : (cx.ti 370).bytes = 8 := rfl
theorem s371 : (cx.ti 371).size = 3 := rfl
theorem b371 : (cx.ti 371).bytes = 40 := rfl
theorem s372 : (cx.ti 372).size = 3 := rfl
theorem b372 : (cx.ti 372).bytes = 40 := rfl
theorem s375 : (cx.ti 375).size = 1 := rfl
theorem b375 : (cx.ti 375).bytes = 8 := rfl
theorem s376 : (cx.ti 376).size = 1 := rfl
theorem b376 : (cx.ti 376).bytes = 8 := rfl
theorem s377 : (cx.ti 377).size = 1 := rfl
theorem b377 : (cx.ti 377).bytes = 8 := rfl
theorem s378 : (cx.ti 378).size = 1 := rfl
theorem b378 : (cx.ti 378).bytes = 8 := rfl
theorem s379 : (cx.ti 379).size = 1 := rfl
theorem b379 : (cx.ti 379).bytes = 8 := rfl
theorem s380 : (cx.ti 380).size = 1 := rfl
theorem b380 : (cx.ti 380).bytes = 8 := rfl
theorem s382 : (cx.ti 382).size = 1 := rfl
theorem b382 : (cx.ti 382).bytes = 8 := rfl
theorem s383 : (cx.ti 383).size = 32 := rfl
theorem b383 : (cx.ti 383).bytes = 32 := rfl
theorem s384 : (cx.ti 384).size = 64 := rfl
theorem b384 : (cx.ti 384).bytes = 64 := rfl
theorem s385 : (cx.ti 385).size = 1 := rfl
theorem b385 : (cx.ti 385).bytes = 8 := rfl
theorem s386 : (cx.ti 386).size = 1 := rfl
theorem b386 : (cx.ti 386).bytes = 8 := rfl
theorem s387 : (cx.ti 387).size = 1 := rfl
theorem b387 : (cx.ti 387).bytes = 8 := rfl
theorem s388 : (cx.ti 388).size = 1 := rfl
theorem b388 : (cx.ti 388).bytes = 8 := rfl
theorem s389 : (cx.ti 389).size = 1 := rfl
theorem b389 : (cx.ti 389).bytes = 8 := rfl
theorem s391 : (cx.ti 391).size = 1 := rfl
theorem b391 : (cx.ti 391).bytes = 8 := rfl
theorem s392 : (cx.ti 392).size = 1 := rfl
theorem b392 : (cx.ti 392).bytes = 8 := rfl
theorem s393 : (cx.ti 393).size = 1 := rfl
theorem b393 : (cx.ti 393).bytes = 8 := rfl
theorem s394 : (cx.ti 394).size = 16 := rfl
theorem b394 : (cx.ti 394).bytes = 384 := rfl
theorem s395 : (cx.ti 395).size = 1 := rfl
theorem b395 : (cx.ti 395).bytes = 8 := rfl
theorem s396 : (cx.ti 396).size = 1 := rfl
theorem b396 : (cx.ti 396).bytes = 8 := rfl
theorem s397 : (cx.ti 397).size = 1 := rfl
theorem b397 : (cx.ti 397).bytes = 8 := rfl
theorem s398 : (cx.ti 398).size = 1 := rfl
theorem b398 : (cx.ti 398).bytes = 8 := rfl
theorem s399 : (cx.ti 399).size = 1 := rfl
theorem b399 : (cx.ti 399).bytes = 8 := rfl
theorem s400 : (cx.ti 400).size = 1 := rfl
theorem b400 : (cx.ti 400).bytes = 8 := rfl
theorem s401 : (cx.ti 401).size = 1 := rfl
theorem b401 : (cx.ti 401).bytes = 8 := rfl
theorem s402 : (cx.ti 402).size = 1 := rfl
theorem b402 : (cx.ti 402).bytes = 8 := rfl
theorem s403 : (cx.ti 403).size = 2 := rfl
theorem b403 : (cx.ti 403).bytes = 16 := rfl
theorem s404 : (cx.ti 404).size = 2 := rfl
theorem b404 : (cx.ti 404).bytes = 16 := rfl
theorem s405 : (cx.ti 405).size = 1 := rfl
theorem b405 : (cx.ti 405).bytes = 16 := rfl
theorem s406 : (cx.ti 406).size = 1 := rfl
theorem b406 : (cx.ti 406).bytes = 16 := rfl
theorem s407 : (cx.ti 407).size = 2 := rfl
theorem b407 : (cx.ti 407).bytes = 32 := rfl
theorem s408 : (cx.ti 408).size = 2 := rfl
theorem b408 : (cx.ti 408).bytes = 32 := rfl
theorem s409 : (cx.ti 409).size = 1 := rfl
theorem b409 : (cx.ti 409).bytes = 24 := rfl
theorem s410 : (cx.ti 410).size = 2 := rfl
theorem b410 : (cx.ti 410).bytes = 40 := rfl
theorem s411 : (cx.ti 411).size = 2 := rfl
theorem b411 : (cx.ti 411).bytes = 40 := rfl
end Tab
end Go.Proofs.YtdjckabogdohcaaGreat
