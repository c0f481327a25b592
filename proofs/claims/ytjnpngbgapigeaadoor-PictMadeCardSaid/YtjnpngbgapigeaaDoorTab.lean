/- The table of types of this seat's program; printed by a program. -/
import Derived.Test.YtjnpngbgapigeaaDoorEvTab
import Derived.Test.YtjnpngbgapigeaaDoorProg
namespace Go.Proofs.YtjnpngbgapigeaaDoor
open Go.RowKit
namespace Tab
open Ev
@[reducible] def k1 : TI := ⟨.fn, 1, 8, [.nilFunc]⟩
@[reducible] def k2 : TI := ⟨.int .i64, 1, 8, [.int .i64 0]⟩
@[reducible] def k3 : TI := ⟨.int .i64, 1, 8, [.int .i64 0]⟩
@[reducible] def k4 : TI := ⟨.bool, 1, 1, [.bool false]⟩
@[reducible] def k5 : TI := ⟨.int .u8, 1, 1, [.int .u8 0]⟩
@[reducible] def k6 : TI := ⟨.int .u8, 1, 1, [.int .u8 0]⟩
@[reducible] def k7 : TI := ⟨.struct [(0, 2), (1, 3), (2, 4), (3, 6)], 4, 24, [.int .i64 0, .int .i64 0, .bool false, .int .u8 0]⟩
@[reducible] def k8 : TI := ⟨.struct [(0, 2), (1, 3), (2, 4), (3, 6)], 4, 24, [.int .i64 0, .int .i64 0, .bool false, .int .u8 0]⟩
@[reducible] def k9 : TI := ⟨.str, 1, 16, [.string ⟨#[]⟩]⟩
@[reducible] def k10 : TI := ⟨.str, 1, 16, [.string ⟨#[]⟩]⟩
@[reducible] def k11 : TI := ⟨.str, 1, 16, [.string ⟨#[]⟩]⟩
@[reducible] def k12 : TI := ⟨.int .u64, 1, 8, [.int .u64 0]⟩
@[reducible] def k13 : TI := ⟨.struct [(0, 9), (1, 12)], 2, 24, [.string ⟨#[]⟩, .int .u64 0]⟩
@[reducible] def k14 : TI := ⟨.struct [(0, 9), (1, 12)], 2, 24, [.string ⟨#[]⟩, .int .u64 0]⟩
@[reducible] def k15 : TI := ⟨.ptr, 1, 8, [.pointer none]⟩
@[reducible] def k16 : TI := ⟨.ptr, 1, 8, [.pointer none]⟩
@[reducible] def k17 : TI := ⟨.ptr, 1, 8, [.pointer none]⟩
@[reducible] def k18 : TI := ⟨.struct [(0, 17)], 1, 8, [.pointer none]⟩
@[reducible] def k19 : TI := ⟨.struct [(0, 17)], 1, 8, [.pointer none]⟩
@[reducible] def k20 : TI := ⟨.ifc, 1, 16, [.nilIface]⟩
@[reducible] def k21 : TI := ⟨.int .i32, 1, 4, [.int .i32 0]⟩
@[reducible] def k22 : TI := ⟨.sl 5, 1, 24, [.slice none 0 0]⟩
@[reducible] def k23 : TI := ⟨.struct [(0, 3), (1, 3), (2, 22)], 3, 40, [.int .i64 0, .int .i64 0, .slice none 0 0]⟩
@[reducible] def k24 : TI := ⟨.struct [(0, 3), (1, 3), (2, 22)], 3, 40, [.int .i64 0, .int .i64 0, .slice none 0 0]⟩
@[reducible] def k25 : TI := ⟨.int .i64, 1, 8, [.int .i64 0]⟩
@[reducible] def k27 : TI := ⟨.fn, 1, 8, [.nilFunc]⟩
@[reducible] def k28 : TI := ⟨.fn, 1, 8, [.nilFunc]⟩
@[reducible] def k29 : TI := ⟨.fn, 1, 8, [.nilFunc]⟩
@[reducible] def k30 : TI := ⟨.fn, 1, 8, [.nilFunc]⟩
@[reducible] def k31 : TI := ⟨.fn, 1, 8, [.nilFunc]⟩
@[reducible] def k33 : TI := ⟨.fn, 1, 8, [.nilFunc]⟩
@[reducible] def k35 : TI := ⟨.fn, 1, 8, [.nilFunc]⟩
@[reducible] def k36 : TI := ⟨.sl 3, 1, 24, [.slice none 0 0]⟩
@[reducible] def k37 : TI := ⟨.fn, 1, 8, [.nilFunc]⟩
@[reducible] def k38 : TI := ⟨.fn, 1, 8, [.nilFunc]⟩
@[reducible] def k39 : TI := ⟨.fn, 1, 8, [.nilFunc]⟩
@[reducible] def k40 : TI := ⟨.fn, 1, 8, [.nilFunc]⟩
@[reducible] def k41 : TI := ⟨.fn, 1, 8, [.nilFunc]⟩
@[reducible] def k42 : TI := ⟨.sl 9, 1, 24, [.slice none 0 0]⟩
@[reducible] def k43 : TI := ⟨.fn, 1, 8, [.nilFunc]⟩
@[reducible] def k44 : TI := ⟨.fn, 1, 8, [.nilFunc]⟩
@[reducible] def k45 : TI := ⟨.fn, 1, 8, [.nilFunc]⟩
@[reducible] def k47 : TI := ⟨.fn, 1, 8, [.nilFunc]⟩
@[reducible] def k48 : TI := ⟨.fn, 1, 8, [.nilFunc]⟩
@[reducible] def k49 : TI := ⟨.fn, 1, 8, [.nilFunc]⟩
@[reducible] def k50 : TI := ⟨.arr 3 3, 3, 24, [.int .i64 0, .int .i64 0, .int .i64 0]⟩
@[reducible] def k52 : TI := ⟨.fn, 1, 8, [.nilFunc]⟩
@[reducible] def k53 : TI := ⟨.fn, 1, 8, [.nilFunc]⟩
@[reducible] def k54 : TI := ⟨.fn, 1, 8, [.nilFunc]⟩
@[reducible] def k55 : TI := ⟨.fn, 1, 8, [.nilFunc]⟩
@[reducible] def k56 : TI := ⟨.fn, 1, 8, [.nilFunc]⟩
@[reducible] def k57 : TI := ⟨.fn, 1, 8, [.nilFunc]⟩
@[reducible] def k58 : TI := ⟨.ptr, 1, 8, [.pointer none]⟩
@[reducible] def k59 : TI := ⟨.struct [(0, 58), (1, 22)], 2, 32, [.pointer none, .slice none 0 0]⟩
@[reducible] def k60 : TI := ⟨.struct [(0, 58), (1, 22)], 2, 32, [.pointer none, .slice none 0 0]⟩
@[reducible] def k61 : TI := ⟨.ifc, 1, 16, [.nilIface]⟩
@[reducible] def k62 : TI := ⟨.ifc, 1, 16, [.nilIface]⟩
@[reducible] def k64 : TI := ⟨.fn, 1, 8, [.nilFunc]⟩
@[reducible] def k65 : TI := ⟨.fn, 1, 8, [.nilFunc]⟩
@[reducible] def k66 : TI := ⟨.fn, 1, 8, [.nilFunc]⟩
@[reducible] def k67 : TI := ⟨.fn, 1, 8, [.nilFunc]⟩
@[reducible] def k68 : TI := ⟨.fn, 1, 8, [.nilFunc]⟩
@[reducible] def k69 : TI := ⟨.fn, 1, 8, [.nilFunc]⟩
@[reducible] def k70 : TI := ⟨.sl 72, 1, 24, [.slice none 0 0]⟩
@[reducible] def k71 : TI := ⟨.struct [(0, 3), (1, 3)], 2, 16, [.int .i64 0, .int .i64 0]⟩
@[reducible] def k72 : TI := ⟨.struct [(0, 3), (1, 3)], 2, 16, [.int .i64 0, .int .i64 0]⟩
@[reducible] def k73 : TI := ⟨.fn, 1, 8, [.nilFunc]⟩
@[reducible] def k74 : TI := ⟨.fn, 1, 8, [.nilFunc]⟩
@[reducible] def k75 : TI := ⟨.ptr, 1, 8, [.pointer none]⟩
@[reducible] def k76 : TI := ⟨.fn, 1, 8, [.nilFunc]⟩
@[reducible] def k78 : TI := ⟨.fn, 1, 8, [.nilFunc]⟩
@[reducible] def k79 : TI := ⟨.fn, 1, 8, [.nilFunc]⟩
@[reducible] def k80 : TI := ⟨.fn, 1, 8, [.nilFunc]⟩
@[reducible] def k84 : TI := ⟨.fn, 1, 8, [.nilFunc]⟩
@[reducible] def k85 : TI := ⟨.fn, 1, 8, [.nilFunc]⟩
@[reducible] def k86 : TI := ⟨.ptr, 1, 8, [.pointer none]⟩
@[reducible] def k87 : TI := ⟨.fn, 1, 8, [.nilFunc]⟩
@[reducible] def k89 : TI := ⟨.fn, 1, 8, [.nilFunc]⟩
@[reducible] def k90 : TI := ⟨.fn, 1, 8, [.nilFunc]⟩
@[reducible] def k91 : TI := ⟨.fn, 1, 8, [.nilFunc]⟩
@[reducible] def k92 : TI := ⟨.fn, 1, 8, [.nilFunc]⟩
@[reducible] def k93 : TI := ⟨.int .u64, 1, 8, [.int .u64 0]⟩
@[reducible] def k94 : TI := ⟨.fn, 1, 8, [.nilFunc]⟩
@[reducible] def k95 : TI := ⟨.fn, 1, 8, [.nilFunc]⟩
@[reducible] def k96 : TI := ⟨.int .i64, 1, 8, [.int .i64 0]⟩
@[reducible] def k98 : TI := ⟨.fn, 1, 8, [.nilFunc]⟩
@[reducible] def k99 : TI := ⟨.ptr, 1, 8, [.pointer none]⟩
@[reducible] def k100 : TI := ⟨.fn, 1, 8, [.nilFunc]⟩
@[reducible] def k101 : TI := ⟨.fn, 1, 8, [.nilFunc]⟩
@[reducible] def k102 : TI := ⟨.arr 24 5, 24, 24, [.int .u8 0, .int .u8 0, .int .u8 0, .int .u8 0, .int .u8 0, .int .u8 0, .int .u8 0, .int .u8 0, .int .u8 0, .int .u8 0, .int .u8 0, .int .u8 0, .int .u8 0, .int .u8 0, .int .u8 0, .int .u8 0, .int .u8 0, .int .u8 0, .int .u8 0, .int .u8 0, .int .u8 0, .int .u8 0, .int .u8 0, .int .u8 0]⟩
@[reducible] def k103 : TI := ⟨.int .u64, 1, 8, [.int .u64 0]⟩
@[reducible] def k104 : TI := ⟨.fn, 1, 8, [.nilFunc]⟩
@[reducible] def k105 : TI := ⟨.fn, 1, 8, [.nilFunc]⟩
@[reducible] def k107 : TI := ⟨.fn, 1, 8, [.nilFunc]⟩
@[reducible] def k109 : TI := ⟨.struct [(0, 5), (1, 5)], 2, 2, [.int .u8 0, .int .u8 0]⟩
@[reducible] def k110 : TI := ⟨.struct [(0, 5), (1, 5)], 2, 2, [.int .u8 0, .int .u8 0]⟩
@[reducible] def k111 : TI := ⟨.arr 16 110, 32, 32, [.int .u8 0, .int .u8 0, .int .u8 0, .int .u8 0, .int .u8 0, .int .u8 0, .int .u8 0, .int .u8 0, .int .u8 0, .int .u8 0, .int .u8 0, .int .u8 0, .int .u8 0, .int .u8 0, .int .u8 0, .int .u8 0, .int .u8 0, .int .u8 0, .int .u8 0, .int .u8 0, .int .u8 0, .int .u8 0, .int .u8 0, .int .u8 0, .int .u8 0, .int .u8 0, .int .u8 0, .int .u8 0, .int .u8 0, .int .u8 0, .int .u8 0, .int .u8 0]⟩
@[reducible] def k112 : TI := ⟨.int .u32, 1, 4, [.int .u32 0]⟩
@[reducible] def k114 : TI := ⟨.fn, 1, 8, [.nilFunc]⟩
@[reducible] def k115 : TI := ⟨.fn, 1, 8, [.nilFunc]⟩
@[reducible] def k117 : TI := ⟨.fn, 1, 8, [.nilFunc]⟩
@[reducible] def k118 : TI := ⟨.fn, 1, 8, [.nilFunc]⟩
@[reducible] def k119 : TI := ⟨.struct [(0, 9), (1, 9), (2, 62)], 3, 48, [.string ⟨#[]⟩, .string ⟨#[]⟩, .nilIface]⟩
@[reducible] def k120 : TI := ⟨.struct [(0, 9), (1, 9), (2, 62)], 3, 48, [.string ⟨#[]⟩, .string ⟨#[]⟩, .nilIface]⟩
@[reducible] def k121 : TI := ⟨.fn, 1, 8, [.nilFunc]⟩
@[reducible] def k122 : TI := ⟨.fn, 1, 8, [.nilFunc]⟩
@[reducible] def k123 : TI := ⟨.arr 20 103, 20, 160, [.int .u64 0, .int .u64 0, .int .u64 0, .int .u64 0, .int .u64 0, .int .u64 0, .int .u64 0, .int .u64 0, .int .u64 0, .int .u64 0, .int .u64 0, .int .u64 0, .int .u64 0, .int .u64 0, .int .u64 0, .int .u64 0, .int .u64 0, .int .u64 0, .int .u64 0, .int .u64 0]⟩
@[reducible] def k125 : TI := ⟨.fn, 1, 8, [.nilFunc]⟩
@[reducible] def k126 : TI := ⟨.fn, 1, 8, [.nilFunc]⟩
@[reducible] def k127 : TI := ⟨.fn, 1, 8, [.nilFunc]⟩
@[reducible] def k128 : TI := ⟨.ptr, 1, 8, [.pointer none]⟩
@[reducible] def k129 : TI := ⟨.struct [(0, 9)], 1, 16, [.string ⟨#[]⟩]⟩
@[reducible] def k130 : TI := ⟨.struct [(0, 9)], 1, 16, [.string ⟨#[]⟩]⟩
@[reducible] def k131 : TI := ⟨.fn, 1, 8, [.nilFunc]⟩
@[reducible] def k132 : TI := ⟨.arr 32 5, 32, 32, [.int .u8 0, .int .u8 0, .int .u8 0, .int .u8 0, .int .u8 0, .int .u8 0, .int .u8 0, .int .u8 0, .int .u8 0, .int .u8 0, .int .u8 0, .int .u8 0, .int .u8 0, .int .u8 0, .int .u8 0, .int .u8 0, .int .u8 0, .int .u8 0, .int .u8 0, .int .u8 0, .int .u8 0, .int .u8 0, .int .u8 0, .int .u8 0, .int .u8 0, .int .u8 0, .int .u8 0, .int .u8 0, .int .u8 0, .int .u8 0, .int .u8 0, .int .u8 0]⟩
@[reducible] def k133 : TI := ⟨.arr 64 5, 64, 64, [.int .u8 0, .int .u8 0, .int .u8 0, .int .u8 0, .int .u8 0, .int .u8 0, .int .u8 0, .int .u8 0, .int .u8 0, .int .u8 0, .int .u8 0, .int .u8 0, .int .u8 0, .int .u8 0, .int .u8 0, .int .u8 0, .int .u8 0, .int .u8 0, .int .u8 0, .int .u8 0, .int .u8 0, .int .u8 0, .int .u8 0, .int .u8 0, .int .u8 0, .int .u8 0, .int .u8 0, .int .u8 0, .int .u8 0, .int .u8 0, .int .u8 0, .int .u8 0, .int .u8 0, .int .u8 0, .int .u8 0, .int .u8 0, .int .u8 0, .int .u8 0, .int .u8 0, .int .u8 0, .int .u8 0, .int .u8 0, .int .u8 0, .int .u8 0, .int .u8 0, .int .u8 0, .int .u8 0, .int .u8 0, .int .u8 0, .int .u8 0, .int .u8 0, .int .u8 0, .int .u8 0, .int .u8 0, .int .u8 0, .int .u8 0, .int .u8 0, .int .u8 0, .int .u8 0, .int .u8 0, .int .u8 0, .int .u8 0, .int .u8 0, .int .u8 0]⟩
@[reducible] def k134 : TI := ⟨.ptr, 1, 8, [.pointer none]⟩
@[reducible] def k135 : TI := ⟨.ptr, 1, 8, [.pointer none]⟩
@[reducible] def k136 : TI := ⟨.struct [(0, 17), (1, 17), (2, 17), (3, 9)], 4, 40, [.pointer none, .pointer none, .pointer none, .string ⟨#[]⟩]⟩
@[reducible] def k137 : TI := ⟨.struct [(0, 17), (1, 17), (2, 17), (3, 9)], 4, 40, [.pointer none, .pointer none, .pointer none, .string ⟨#[]⟩]⟩
@[reducible] def k138 : TI := ⟨.arr 0 16, 0, 0, []⟩
@[reducible] def k139 : TI := ⟨.struct [(0, 138)], 0, 0, []⟩
@[reducible] def k140 : TI := ⟨.struct [(0, 138)], 0, 0, []⟩
@[reducible] def k141 : TI := ⟨.fn, 1, 8, [.nilFunc]⟩
@[reducible] def k142 : TI := ⟨.int .u8, 1, 1, [.int .u8 0]⟩
@[reducible] def k143 : TI := ⟨.int .u8, 1, 1, [.int .u8 0]⟩
@[reducible] def k144 : TI := ⟨.fn, 1, 8, [.nilFunc]⟩
@[reducible] def k145 : TI := ⟨.int .i32, 1, 4, [.int .i32 0]⟩
@[reducible] def k146 : TI := ⟨.int .i32, 1, 4, [.int .i32 0]⟩
@[reducible] def k147 : TI := ⟨.struct [(0, 12), (1, 12), (2, 112), (3, 142), (4, 5), (5, 5), (6, 143), (7, 144), (8, 75), (9, 145), (10, 146)], 11, 48, [.int .u64 0, .int .u64 0, .int .u32 0, .int .u8 0, .int .u8 0, .int .u8 0, .int .u8 0, .nilFunc, .pointer none, .int .i32 0, .int .i32 0]⟩
@[reducible] def k148 : TI := ⟨.struct [(0, 12), (1, 12), (2, 112), (3, 142), (4, 5), (5, 5), (6, 143), (7, 144), (8, 75), (9, 145), (10, 146)], 11, 48, [.int .u64 0, .int .u64 0, .int .u32 0, .int .u8 0, .int .u8 0, .int .u8 0, .int .u8 0, .nilFunc, .pointer none, .int .i32 0, .int .i32 0]⟩
@[reducible] def k149 : TI := ⟨.struct [(0, 9), (1, 62)], 2, 32, [.string ⟨#[]⟩, .nilIface]⟩
@[reducible] def k150 : TI := ⟨.struct [(0, 9), (1, 62)], 2, 32, [.string ⟨#[]⟩, .nilIface]⟩
@[reducible] def k151 : TI := ⟨.sl 62, 1, 24, [.slice none 0 0]⟩
@[reducible] def k152 : TI := ⟨.struct [(0, 9), (1, 151)], 2, 40, [.string ⟨#[]⟩, .slice none 0 0]⟩
@[reducible] def k153 : TI := ⟨.struct [(0, 9), (1, 151)], 2, 40, [.string ⟨#[]⟩, .slice none 0 0]⟩
def tree : TT :=
  (.node 75 k75 (.node 38 k38 (.node 18 k18 (.node 9 k9 (.node 5 k5 (.node 3 k3 (.node 2 k2 (.node 1 k1 .nil .nil) .nil) (.node 4 k4 .nil .nil)) (.node 7 k7 (.node 6 k6 .nil .nil) (.node 8 k8 .nil .nil))) (.node 14 k14 (.node 12 k12 (.node 11 k11 (.node 10 k10 .nil .nil) .nil) (.node 13 k13 .nil .nil)) (.node 16 k16 (.node 15 k15 .nil .nil) (.node 17 k17 .nil .nil)))) (.node 28 k28 (.node 23 k23 (.node 21 k21 (.node 20 k20 (.node 19 k19 .nil .nil) .nil) (.node 22 k22 .nil .nil)) (.node 25 k25 (.node 24 k24 .nil .nil) (.node 27 k27 .nil .nil))) (.node 33 k33 (.node 30 k30 (.node 29 k29 .nil .nil) (.node 31 k31 .nil .nil)) (.node 36 k36 (.node 35 k35 .nil .nil) (.node 37 k37 .nil .nil))))) (.node 57 k57 (.node 48 k48 (.node 43 k43 (.node 41 k41 (.node 40 k40 (.node 39 k39 .nil .nil) .nil) (.node 42 k42 .nil .nil)) (.node 45 k45 (.node 44 k44 .nil .nil) (.node 47 k47 .nil .nil))) (.node 53 k53 (.node 50 k50 (.node 49 k49 .nil .nil) (.node 52 k52 .nil .nil)) (.node 55 k55 (.node 54 k54 .nil .nil) (.node 56 k56 .nil .nil)))) (.node 67 k67 (.node 62 k62 (.node 60 k60 (.node 59 k59 (.node 58 k58 .nil .nil) .nil) (.node 61 k61 .nil .nil)) (.node 65 k65 (.node 64 k64 .nil .nil) (.node 66 k66 .nil .nil))) (.node 71 k71 (.node 69 k69 (.node 68 k68 .nil .nil) (.node 70 k70 .nil .nil)) (.node 73 k73 (.node 72 k72 .nil .nil) (.node 74 k74 .nil .nil)))))) (.node 119 k119 (.node 98 k98 (.node 89 k89 (.node 84 k84 (.node 79 k79 (.node 78 k78 (.node 76 k76 .nil .nil) .nil) (.node 80 k80 .nil .nil)) (.node 86 k86 (.node 85 k85 .nil .nil) (.node 87 k87 .nil .nil))) (.node 93 k93 (.node 91 k91 (.node 90 k90 .nil .nil) (.node 92 k92 .nil .nil)) (.node 95 k95 (.node 94 k94 .nil .nil) (.node 96 k96 .nil .nil)))) (.node 109 k109 (.node 103 k103 (.node 101 k101 (.node 100 k100 (.node 99 k99 .nil .nil) .nil) (.node 102 k102 .nil .nil)) (.node 105 k105 (.node 104 k104 .nil .nil) (.node 107 k107 .nil .nil))) (.node 114 k114 (.node 111 k111 (.node 110 k110 .nil .nil) (.node 112 k112 .nil .nil)) (.node 117 k117 (.node 115 k115 .nil .nil) (.node 118 k118 .nil .nil))))) (.node 137 k137 (.node 129 k129 (.node 125 k125 (.node 122 k122 (.node 121 k121 (.node 120 k120 .nil .nil) .nil) (.node 123 k123 .nil .nil)) (.node 127 k127 (.node 126 k126 .nil .nil) (.node 128 k128 .nil .nil))) (.node 133 k133 (.node 131 k131 (.node 130 k130 .nil .nil) (.node 132 k132 .nil .nil)) (.node 135 k135 (.node 134 k134 .nil .nil) (.node 136 k136 .nil .nil)))) (.node 146 k146 (.node 142 k142 (.node 140 k140 (.node 139 k139 (.node 138 k138 .nil .nil) .nil) (.node 141 k141 .nil .nil)) (.node 144 k144 (.node 143 k143 .nil .nil) (.node 145 k145 .nil .nil))) (.node 150 k150 (.node 148 k148 (.node 147 k147 .nil .nil) (.node 149 k149 .nil .nil)) (.node 152 k152 (.node 151 k151 .nil .nil) (.node 153 k153 .nil .nil)))))))
def eqs : ET :=
  .node 50 [.int .i64, .int .i64, .int .i64] (.node 102 [.int .u8, .int .u8, .int .u8, .int .u8, .int .u8, .int .u8, .int .u8, .int .u8, .int .u8, .int .u8, .int .u8, .int .u8, .int .u8, .int .u8, .int .u8, .int .u8, .int .u8, .int .u8, .int .u8, .int .u8, .int .u8, .int .u8, .int .u8, .int .u8] (.node 111 [.int .u8, .int .u8, .int .u8, .int .u8, .int .u8, .int .u8, .int .u8, .int .u8, .int .u8, .int .u8, .int .u8, .int .u8, .int .u8, .int .u8, .int .u8, .int .u8, .int .u8, .int .u8, .int .u8, .int .u8, .int .u8, .int .u8, .int .u8, .int .u8, .int .u8, .int .u8, .int .u8, .int .u8, .int .u8, .int .u8, .int .u8, .int .u8] (.node 123 [.int .u64, .int .u64, .int .u64, .int .u64, .int .u64, .int .u64, .int .u64, .int .u64, .int .u64, .int .u64, .int .u64, .int .u64, .int .u64, .int .u64, .int .u64, .int .u64, .int .u64, .int .u64, .int .u64, .int .u64] (.node 132 [.int .u8, .int .u8, .int .u8, .int .u8, .int .u8, .int .u8, .int .u8, .int .u8, .int .u8, .int .u8, .int .u8, .int .u8, .int .u8, .int .u8, .int .u8, .int .u8, .int .u8, .int .u8, .int .u8, .int .u8, .int .u8, .int .u8, .int .u8, .int .u8, .int .u8, .int .u8, .int .u8, .int .u8, .int .u8, .int .u8, .int .u8, .int .u8] (.nil)))))
def mts : MT :=
  .nil
def ims : IT :=
  .nil
theorem ims_ok : ims.okB Tryd.prog = true := by kernel_rfl
def cx : Cx := ⟨tree.get, eqs.get, mts.get, ims.get⟩
theorem mts_ok : mts.okB Tryd.prog = true := by kernel_rfl
theorem eqs_ok : eqs.okB Tryd.prog = true := by kernel_rfl
theorem tree_ok : tree.okB Tryd.prog = true := by kernel_rfl
theorem cx_ok : cx.ok Tryd.prog := ⟨TT.ok tree tree_ok, ET.ok eqs eqs_ok, MT.ok mts mts_ok, IT.ok ims ims_ok⟩
theorem s1 : (cx.ti 1).size = 1 := rfl
theorem b1 : (cx.ti 1).bytes = 8 := rfl
theorem s2 : (cx.ti 2).size = 1 := rfl
theorem b2 : (cx.ti 2).bytes = 8 := rfl
theorem s3 : (cx.ti 3).size = 1 := rfl
theorem b3 : (cx.ti 3).bytes = 8 := rfl
theorem s4 : (cx.ti 4).size = 1 := rfl
theorem b4 : (cx.ti 4).bytes = 1 := rfl
theorem s5 : (cx.ti 5).size = 1 := rfl
theorem b5 : (cx.ti 5).bytes = 1 := rfl
theorem s6 : (cx.ti 6).size = 1 := rfl
theorem b6 : (cx.ti 6).bytes = 1 := rfl
theorem s7 : (cx.ti 7).size = 4 := rfl
theorem b7 : (cx.ti 7).bytes = 24 := rfl
theorem s8 : (cx.ti 8).size = 4 := rfl
theorem b8 : (cx.ti 8).bytes = 24 := rfl
theorem s9 : (cx.ti 9).size = 1 := rfl
theorem b9 : (cx.ti 9).bytes = 16 := rfl
theorem s10 : (cx.ti 10).size = 1 := rfl
theorem b10 : (cx.ti 10).bytes = 16 := rfl
theorem s11 : (cx.ti 11).size = 1 := rfl
theorem b11 : (cx.ti 11).bytes = 16 := rfl
theorem s12 : (cx.ti 12).size = 1 := rfl
theorem b12 : (cx.ti 12).bytes = 8 := rfl
theorem s13 : (cx.ti 13).size = 2 := rfl
theorem b13 : (cx.ti 13).bytes = 24 := rfl
theorem s14 : (cx.ti 14).size = 2 := rfl
theorem b14 : (cx.ti 14).bytes = 24 := rfl
theorem s15 : (cx.ti 15).size = 1 := rfl
theorem b15 : (cx.ti 15).bytes = 8 := rfl
theorem s16 : (cx.ti 16).size = 1 := rfl
theorem b16 : (cx.ti 16).bytes = 8 := rfl
theorem s17 : (cx.ti 17).size = 1 := rfl
theorem b17 : (cx.ti 17).bytes = 8 := rfl
theorem s18 : (cx.ti 18).size = 1 := rfl
theorem b18 : (cx.ti 18).bytes = 8 := rfl
theorem s19 : (cx.ti 19).size = 1 := rfl
theorem b19 : (cx.ti 19).bytes = 8 := rfl
theorem s20 : (cx.ti 20).size = 1 := rfl
theorem b20 : (cx.ti 20).bytes = 16 := rfl
theorem s21 : (cx.ti 21).size = 1 := rfl
theorem b21 : (cx.ti 21).bytes = 4 := rfl
theorem s22 : (cx.ti 22).size = 1 := rfl
theorem b22 : (cx.ti 22).bytes = 24 := rfl
theorem s23 : (cx.ti 23).size = 3 := rfl
theorem b23 : (cx.ti 23).bytes = 40 := rfl
theorem s24 : (cx.ti 24).size = 3 := rfl
theorem b24 : (cx.ti 24).bytes = 40 := rfl
theorem s25 : (cx.ti 25).size = 1 := rfl
theorem b25 : (cx.ti 25).bytes = 8 := rfl
theorem s27 : (cx.ti 27).size = 1 := rfl
theorem b27 : (cx.ti 27).bytes = 8 := rfl
theorem s28 : (cx.ti 28).size = 1 := rfl
theorem b28 : (cx.ti 28).bytes = 8 := rfl
theorem s29 : (cx.ti 29).size = 1 := rfl
theorem b29 : (cx.ti 29).bytes = 8 := rfl
theorem s30 : (cx.ti 30).size = 1 := rfl
theorem b30 : (cx.ti 30).bytes = 8 := rfl
theorem s31 : (cx.ti 31).size = 1 := rfl
theorem b31 : (cx.ti 31).bytes = 8 := rfl
theorem s33 : (cx.ti 33).size = 1 := rfl
theorem b33 : (cx.ti 33).bytes = 8 := rfl
theorem s35 : (cx.ti 35).size = 1 := rfl
theorem b35 : (cx.ti 35).bytes = 8 := rfl
theorem s36 : (cx.ti 36).size = 1 := rfl
theorem b36 : (cx.ti 36).bytes = 24 := rfl
theorem s37 : (cx.ti 37).size = 1 := rfl
theorem b37 : (cx.ti 37).bytes = 8 := rfl
theorem s38 : (cx.ti 38).size = 1 := rfl
theorem b38 : (cx.ti 38).bytes = 8 := rfl
theorem s39 : (cx.ti 39).size = 1 := rfl
theorem b39 : (cx.ti 39).bytes = 8 := rfl
theorem s40 : (cx.ti 40).size = 1 := rfl
theorem b40 : (cx.ti 40).bytes = 8 := rfl
theorem s41 : (cx.ti 41).size = 1 := rfl
theorem b41 : (cx.ti 41).bytes = 8 := rfl
theorem s42 : (cx.ti 42).size = 1 := rfl
theorem b42 : (cx.ti 42).bytes = 24 := rfl
theorem s43 : (cx.ti 43).size = 1 := rfl
theorem b43 : (cx.ti 43).bytes = 8 := rfl
theorem s44 : (cx.ti 44).size = 1 := rfl
theorem b44 : (cx.ti 44).bytes = 8 := rfl
theorem s45 : (cx.ti 45).size = 1 := rfl
theorem b45 : (cx.ti 45).bytes = 8 := rfl
theorem s47 : (cx.ti 47).size = 1 := rfl
theorem b47 : (cx.ti 47).bytes = 8 := rfl
theorem s48 : (cx.ti 48).size = 1 := rfl
theorem b48 : (cx.ti 48).bytes = 8 := rfl
theorem s49 : (cx.ti 49).size = 1 := rfl
theorem b49 : (cx.ti 49).bytes = 8 := rfl
theorem s50 : (cx.ti 50).size = 3 := rfl
theorem b50 : (cx.ti 50).bytes = 24 := rfl
theorem s52 : (cx.ti 52).size = 1 := rfl
theorem b52 : (cx.ti 52).bytes = 8 := rfl
theorem s53 : (cx.ti 53).size = 1 := rfl
theorem b53 : (cx.ti 53).bytes = 8 := rfl
theorem s54 : (cx.ti 54).size = 1 := rfl
theorem b54 : (cx.ti 54).bytes = 8 := rfl
theorem s55 : (cx.ti 55).size = 1 := rfl
theorem b55 : (cx.ti 55).bytes = 8 := rfl
theorem s56 : (cx.ti 56).size = 1 := rfl
theorem b56 : (cx.ti 56).bytes = 8 := rfl
theorem s57 : (cx.ti 57).size = 1 := rfl
theorem b57 : (cx.ti 57).bytes = 8 := rfl
theorem s58 : (cx.ti 58).size = 1 := rfl
theorem b58 : (cx.ti 58).bytes = 8 := rfl
theorem s59 : (cx.ti 59).size = 2 := rfl
theorem b59 : (cx.ti 59).bytes = 32 := rfl
theorem s60 : (cx.ti 60).size = 2 := rfl
theorem b60 : (cx.ti 60).bytes = 32 := rfl
theorem s61 : (cx.ti 61).size = 1 := rfl
theorem b61 : (cx.ti 61).bytes = 16 := rfl
theorem s62 : (cx.ti 62).size = 1 := rfl
theorem b62 : (cx.ti 62).bytes = 16 := rfl
theorem s64 : (cx.ti 64).size = 1 := rfl
theorem b64 : (cx.ti 64).bytes = 8 := rfl
theorem s65 : (cx.ti 65).size = 1 := rfl
theorem b65 : (cx.ti 65).bytes = 8 := rfl
theorem s66 : (cx.ti 66).size = 1 := rfl
theorem b66 : (cx.ti 66).bytes = 8 := rfl
theorem s67 : (cx.ti 67).size = 1 := rfl
theorem b67 : (cx.ti 67).bytes = 8 := rfl
theorem s68 : (cx.ti 68).size = 1 := rfl
theorem b68 : (cx.ti 68).bytes = 8 := rfl
theorem s69 : (cx.ti 69).size = 1 := rfl
theorem b69 : (cx.ti 69).bytes = 8 := rfl
theorem s70 : (cx.ti 70).size = 1 := rfl
theorem b70 : (cx.ti 70).bytes = 24 := rfl
theorem s71 : (cx.ti 71).size = 2 := rfl
theorem b71 : (cx.ti 71).bytes = 16 := rfl
theorem s72 : (cx.ti 72).size = 2 := rfl
theorem b72 : (cx.ti 72).bytes = 16 := rfl
theorem s73 : (cx.ti 73).size = 1 := rfl
theorem b73 : (cx.ti 73).bytes = 8 := rfl
theorem s74 : (cx.ti 74).size = 1 := rfl
theorem b74 : (cx.ti 74).bytes = 8 := rfl
theorem s75 : (cx.ti 75).size = 1 := rfl
theorem b75 : (cx.ti 75).bytes = 8 := rfl
theorem s76 : (cx.ti 76).size = 1 := rfl
theorem b76 : (cx.ti 76).bytes = 8 := rfl
theorem s78 : (cx.ti 78).size = 1 := rfl
theorem b78 : (cx.ti 78).bytes = 8 := rfl
theorem s79 : (cx.ti 79).size = 1 := rfl
theorem b79 : (cx.ti 79).bytes = 8 := rfl
theorem s80 : (cx.ti 80).size = 1 := rfl
theorem b80 : (cx.ti 80).bytes = 8 := rfl
theorem s84 : (cx.ti 84).size = 1 := rfl
theorem b84 : (cx.ti 84).bytes = 8 := rfl
theorem s85 : (cx.ti 85).size = 1 := rfl
theorem b85 : (cx.ti 85).bytes = 8 := rfl
theorem s86 : (cx.ti 86).size = 1 := rfl
theorem b86 : (cx.ti 86).bytes = 8 := rfl
theorem s87 : (cx.ti 87).size = 1 := rfl
theorem b87 : (cx.ti 87).bytes = 8 := rfl
theorem s89 : (cx.ti 89).size = 1 := rfl
theorem b89 : (cx.ti 89).bytes = 8 := rfl
theorem s90 : (cx.ti 90).size = 1 := rfl
theorem b90 : (cx.ti 90).bytes = 8 := rfl
theorem s91 : (cx.ti 91).size = 1 := rfl
theorem b91 : (cx.ti 91).bytes = 8 := rfl
theorem s92 : (cx.ti 92).size = 1 := rfl
theorem b92 : (cx.ti 92).bytes = 8 := rfl
theorem s93 : (cx.ti 93).size = 1 := rfl
theorem b93 : (cx.ti 93).bytes = 8 := rfl
theorem s94 : (cx.ti 94).size = 1 := rfl
theorem b94 : (cx.ti 94).bytes = 8 := rfl
theorem s95 : (cx.ti 95).size = 1 := rfl
theorem b95 : (cx.ti 95).bytes = 8 := rfl
theorem s96 : (cx.ti 96).size = 1 := rfl
theorem b96 : (cx.ti 96).bytes = 8 := rfl
theorem s98 : (cx.ti 98).size = 1 := rfl
theorem b98 : (cx.ti 98).bytes = 8 := rfl
theorem s99 : (cx.ti 99).size = 1 := rfl
theorem b99 : (cx.ti 99).bytes = 8 := rfl
theorem s100 : (cx.ti 100).size = 1 := rfl
theorem b100 : (cx.ti 100).bytes = 8 := rfl
theorem s101 : (cx.ti 101).size = 1 := rfl
theorem b101 : (cx.ti 101).bytes = 8 := rfl
theorem s102 : (cx.ti 102).size = 24 := rfl
theorem b102 : (cx.ti 102).bytes = 24 := rfl
theorem s103 : (cx.ti 103).size = 1 := rfl
theorem b103 : (cx.ti 103).bytes = 8 := rfl
theorem s104 : (cx.ti 104).size = 1 := rfl
theorem b104 : (cx.ti 104).bytes = 8 := rfl
theorem s105 : (cx.ti 105).size = 1 := rfl
theorem b105 : (cx.ti 105).bytes = 8 := rfl
theorem s107 : (cx.ti 107).size = 1 := rfl
theorem b107 : (cx.ti 107).bytes = 8 := rfl
theorem s109 : (cx.ti 109).size = 2 := rfl
theorem b109 : (cx.ti 109).bytes = 2 := rfl
theorem s110 : (cx.ti 110).size = 2 := rfl
theorem b110 : (cx.ti 110).bytes = 2 := rfl
theorem s111 : (cx.ti 111).size = 32 := rfl
theorem b111 : (cx.ti 111).bytes = 32 := rfl
theorem s112 : (cx.ti 112).size = 1 := rfl
theorem b112 : (cx.ti 112).bytes = 4 := rfl
theorem s114 : (cx.ti 114).size = 1 := rfl
theorem b114 : (cx.ti 114).bytes = 8 := rfl
theorem s115 : (cx.ti 115).size = 1 := rfl
theorem b115 : (cx.ti 115).bytes = 8 := rfl
theorem s117 : (cx.ti 117).size = 1 := rfl
theorem b117 : (cx.ti 117).bytes = 8 := rfl
theorem s118 : (cx.ti 118).size = 1 := rfl
theorem b118 : (cx.ti 118).bytes = 8 := rfl
theorem s119 : (cx.ti 119).size = 3 := rfl
theorem b119 : (cx.ti 119).bytes = 48 := rfl
theorem s120 : (cx.ti 120).size = 3 := rfl
theorem b120 : (cx.ti 120).bytes = 48 := rfl
theorem s121 : (cx.ti 121).size = 1 := rfl
theorem b121 : (cx.ti 121).bytes = 8 := rfl
theorem s122 : (cx.ti 122).size = 1 := rfl
theorem b122 : (cx.ti 122).bytes = 8 := rfl
theorem s123 : (cx.ti 123).size = 20 := rfl
theorem b123 : (cx.ti 123).bytes = 160 := rfl
theorem s125 : (cx.ti 125).size = 1 := rfl
theorem b125 : (cx.ti 125).bytes = 8 := rfl
theorem s126 : (cx.ti 126).size = 1 := rfl
theorem b126 : (cx.ti 126).bytes = 8 := rfl
theorem s127 : (cx.ti 127).size = 1 := rfl
theorem b127 : (cx.ti 127).bytes = 8 := rfl
theorem s128 : (cx.ti 128).size = 1 := rfl
theorem b128 : (cx.ti 128).bytes = 8 := rfl
theorem s129 : (cx.ti 129).size = 1 := rfl
theorem b129 : (cx.ti 129).bytes = 16 := rfl
theorem s130 : (cx.ti 130).size = 1 := rfl
theorem b130 : (cx.ti 130).bytes = 16 := rfl
theorem s131 : (cx.ti 131).size = 1 := rfl
theorem b131 : (cx.ti 131).bytes = 8 := rfl
theorem s132 : (cx.ti 132).size = 32 := rfl
theorem b132 : (cx.ti 132).bytes = 32 := rfl
theorem s133 : (cx.ti 133).size = 64 := rfl
theorem b133 : (cx.ti 133).bytes = 64 := rfl
theorem s134 : (cx.ti 134).size = 1 := rfl
theorem b134 : (cx.ti 134).bytes = 8 := rfl
theorem s135 : (cx.ti 135).size = 1 := rfl
theorem b135 : (cx.ti 135).bytes = 8 := rfl
theorem s136 : (cx.ti 136).size = 4 := rfl
theorem b136 : (cx.ti 136).bytes = 40 := rfl
theorem s137 : (cx.ti 137).size = 4 := rfl
theorem b137 : (cx.ti 137).bytes = 40 := rfl
theorem s138 : (cx.ti 138).size = 0 := rfl
theorem b138 : (cx.ti 138).bytes = 0 := rfl
theorem s139 : (cx.ti 139).size = 0 := rfl
theorem b139 : (cx.ti 139).bytes = 0 := rfl
theorem s140 : (cx.ti 140).size = 0 := rfl
theorem b140 : (cx.ti 140).bytes = 0 := rfl
theorem s141 : (cx.ti 141).size = 1 := rfl
theorem b141 : (cx.ti 141).bytes = 8 := rfl
theorem s142 : (cx.ti 142).size = 1 := rfl
theorem b142 : (cx.ti 142).bytes = 1 := rfl
theorem s143 : (cx.ti 143).size = 1 := rfl
theorem b143 : (cx.ti 143).bytes = 1 := rfl
theorem s144 : (cx.ti 144).size = 1 := rfl
theorem b144 : (cx.ti 144).bytes = 8 := rfl
theorem s145 : (cx.ti 145).size = 1 := rfl
theorem b145 : (cx.ti 145).bytes = 4 := rfl
theorem s146 : (cx.ti 146).size = 1 := rfl
theorem b146 : (cx.ti 146).bytes = 4 := rfl
theorem s147 : (cx.ti 147).size = 11 := rfl
theorem b147 : (cx.ti 147).bytes = 48 := rfl
theorem s148 : (cx.ti 148).size = 11 := rfl
theorem b148 : (cx.ti 148).bytes = 48 := rfl
theorem s149 : (cx.ti 149).size = 2 := rfl
theorem b149 : (cx.ti 149).bytes = 32 := rfl
theorem s150 : (cx.ti 150).size = 2 := rfl
theorem b150 : (cx.ti 150).bytes = 32 := rfl
theorem s151 : (cx.ti 151).size = 1 := rfl
theorem b151 : (cx.ti 151).bytes = 24 := rfl
theorem s152 : (cx.ti 152).size = 2 := rfl
theorem b152 : (cx.ti 152).bytes = 40 := rfl
theorem s153 : (cx.ti 153).size = 2 := rfl
theorem b153 : (cx.ti 153).bytes = 40 := rfl
end Tab
end Go.Proofs.YtjnpngbgapigeaaDoor
