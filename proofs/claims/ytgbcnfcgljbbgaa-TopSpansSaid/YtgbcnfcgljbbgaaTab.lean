/- The table of types of this seat's program; printed by a program. -/
import Derived.Test.YtgbcnfcgljbbgaaEvTab
import Derived.Test.YtgbcnfcgljbbgaaProg
namespace Go.Proofs.Ytgbcnfcgljbbgaa
open Go.RowKit
namespace Tab
open Ev
@[reducible] def k1 : TI := ⟨.fn, 1, 8, [.nilFunc]⟩
@[reducible] def k2 : TI := ⟨.int .i64, 1, 8, [.int .i64 0]⟩
@[reducible] def k3 : TI := ⟨.int .i64, 1, 8, [.int .i64 0]⟩
@[reducible] def k4 : TI := ⟨.bool, 1, 1, [.bool false]⟩
@[reducible] def k5 : TI := ⟨.int .u8, 1, 1, [.int .u8 0]⟩
@[reducible] def k6 : TI := ⟨.int .u8, 1, 1, [.int .u8 0]⟩
@[reducible] def k7 : TI := ⟨.struct [(0, 2), (1, 3), (2, 4), (3, 6)], 4, 24, [.int .i64 0, .int .i64 0, .bool false, .int .u8 0]⟩
@[reducible] def k8 : TI := ⟨.struct [(0, 2), (1, 3), (2, 4), (3, 6)], 4, 24, [.int .i64 0, .int .i64 0, .bool false, .int .u8 0]⟩
@[reducible] def k9 : TI := ⟨.str, 1, 16, [.string ⟨#[]⟩]⟩
@[reducible] def k10 : TI := ⟨.str, 1, 16, [.string ⟨#[]⟩]⟩
@[reducible] def k11 : TI := ⟨.str, 1, 16, [.string ⟨#[]⟩]⟩
@[reducible] def k12 : TI := ⟨.int .u64, 1, 8, [.int .u64 0]⟩
@[reducible] def k13 : TI := ⟨.struct [(0, 9), (1, 12)], 2, 24, [.string ⟨#[]⟩, .int .u64 0]⟩
@[reducible] def k14 : TI := ⟨.struct [(0, 9), (1, 12)], 2, 24, [.string ⟨#[]⟩, .int .u64 0]⟩
@[reducible] def k15 : TI := ⟨.ptr, 1, 8, [.pointer none]⟩
@[reducible] def k16 : TI := ⟨.ptr, 1, 8, [.pointer none]⟩
@[reducible] def k17 : TI := ⟨.ptr, 1, 8, [.pointer none]⟩
@[reducible] def k18 : TI := ⟨.struct [(0, 17)], 1, 8, [.pointer none]⟩
@[reducible] def k19 : TI := ⟨.struct [(0, 17)], 1, 8, [.pointer none]⟩
@[reducible] def k20 : TI := ⟨.ifc, 1, 16, [.nilIface]⟩
@[reducible] def k21 : TI := ⟨.int .i32, 1, 4, [.int .i32 0]⟩
@[reducible] def k22 : TI := ⟨.sl 3, 1, 24, [.slice none 0 0]⟩
@[reducible] def k23 : TI := ⟨.flt, 1, 8, [.float .f64 0]⟩
@[reducible] def k24 : TI := ⟨.struct [(0, 23), (1, 23), (2, 23)], 3, 24, [.float .f64 0, .float .f64 0, .float .f64 0]⟩
@[reducible] def k25 : TI := ⟨.struct [(0, 23), (1, 23), (2, 23)], 3, 24, [.float .f64 0, .float .f64 0, .float .f64 0]⟩
@[reducible] def k26 : TI := ⟨.struct [(0, 3), (1, 25), (4, 25), (7, 25), (10, 23), (11, 23), (12, 3)], 13, 104, [.int .i64 0, .float .f64 0, .float .f64 0, .float .f64 0, .float .f64 0, .float .f64 0, .float .f64 0, .float .f64 0, .float .f64 0, .float .f64 0, .float .f64 0, .float .f64 0, .int .i64 0]⟩
@[reducible] def k27 : TI := ⟨.struct [(0, 3), (1, 25), (4, 25), (7, 25), (10, 23), (11, 23), (12, 3)], 13, 104, [.int .i64 0, .float .f64 0, .float .f64 0, .float .f64 0, .float .f64 0, .float .f64 0, .float .f64 0, .float .f64 0, .float .f64 0, .float .f64 0, .float .f64 0, .float .f64 0, .int .i64 0]⟩
@[reducible] def k28 : TI := ⟨.struct [(0, 3), (1, 3), (2, 3), (3, 27)], 16, 128, [.int .i64 0, .int .i64 0, .int .i64 0, .int .i64 0, .float .f64 0, .float .f64 0, .float .f64 0, .float .f64 0, .float .f64 0, .float .f64 0, .float .f64 0, .float .f64 0, .float .f64 0, .float .f64 0, .float .f64 0, .int .i64 0]⟩
@[reducible] def k29 : TI := ⟨.struct [(0, 3), (1, 3), (2, 3), (3, 27)], 16, 128, [.int .i64 0, .int .i64 0, .int .i64 0, .int .i64 0, .float .f64 0, .float .f64 0, .float .f64 0, .float .f64 0, .float .f64 0, .float .f64 0, .float .f64 0, .float .f64 0, .float .f64 0, .float .f64 0, .float .f64 0, .int .i64 0]⟩
@[reducible] def k30 : TI := ⟨.sl 29, 1, 24, [.slice none 0 0]⟩
@[reducible] def k31 : TI := ⟨.struct [(0, 30), (1, 3)], 2, 32, [.slice none 0 0, .int .i64 0]⟩
@[reducible] def k32 : TI := ⟨.struct [(0, 30), (1, 3)], 2, 32, [.slice none 0 0, .int .i64 0]⟩
@[reducible] def k33 : TI := ⟨.sl 42, 1, 24, [.slice none 0 0]⟩
@[reducible] def k34 : TI := ⟨.int .i64, 1, 8, [.int .i64 0]⟩
@[reducible] def k36 : TI := ⟨.fn, 1, 8, [.nilFunc]⟩
@[reducible] def k37 : TI := ⟨.struct [(0, 25), (3, 25), (6, 23)], 7, 56, [.float .f64 0, .float .f64 0, .float .f64 0, .float .f64 0, .float .f64 0, .float .f64 0, .float .f64 0]⟩
@[reducible] def k38 : TI := ⟨.struct [(0, 25), (3, 25), (6, 23)], 7, 56, [.float .f64 0, .float .f64 0, .float .f64 0, .float .f64 0, .float .f64 0, .float .f64 0, .float .f64 0]⟩
@[reducible] def k39 : TI := ⟨.struct [(0, 23), (1, 3), (2, 4)], 3, 24, [.float .f64 0, .int .i64 0, .bool false]⟩
@[reducible] def k40 : TI := ⟨.struct [(0, 23), (1, 3), (2, 4)], 3, 24, [.float .f64 0, .int .i64 0, .bool false]⟩
@[reducible] def k41 : TI := ⟨.struct [(0, 40), (3, 40)], 6, 48, [.float .f64 0, .int .i64 0, .bool false, .float .f64 0, .int .i64 0, .bool false]⟩
@[reducible] def k42 : TI := ⟨.struct [(0, 40), (3, 40)], 6, 48, [.float .f64 0, .int .i64 0, .bool false, .float .f64 0, .int .i64 0, .bool false]⟩
@[reducible] def k43 : TI := ⟨.fn, 1, 8, [.nilFunc]⟩
@[reducible] def k44 : TI := ⟨.fn, 1, 8, [.nilFunc]⟩
@[reducible] def k45 : TI := ⟨.fn, 1, 8, [.nilFunc]⟩
@[reducible] def k47 : TI := ⟨.fn, 1, 8, [.nilFunc]⟩
@[reducible] def k48 : TI := ⟨.fn, 1, 8, [.nilFunc]⟩
@[reducible] def k49 : TI := ⟨.fn, 1, 8, [.nilFunc]⟩
@[reducible] def k50 : TI := ⟨.fn, 1, 8, [.nilFunc]⟩
@[reducible] def k51 : TI := ⟨.fn, 1, 8, [.nilFunc]⟩
@[reducible] def k52 : TI := ⟨.fn, 1, 8, [.nilFunc]⟩
@[reducible] def k53 : TI := ⟨.fn, 1, 8, [.nilFunc]⟩
@[reducible] def k54 : TI := ⟨.fn, 1, 8, [.nilFunc]⟩
@[reducible] def k55 : TI := ⟨.fn, 1, 8, [.nilFunc]⟩
@[reducible] def k56 : TI := ⟨.fn, 1, 8, [.nilFunc]⟩
@[reducible] def k57 : TI := ⟨.fn, 1, 8, [.nilFunc]⟩
@[reducible] def k58 : TI := ⟨.fn, 1, 8, [.nilFunc]⟩
@[reducible] def k59 : TI := ⟨.fn, 1, 8, [.nilFunc]⟩
@[reducible] def k60 : TI := ⟨.sl 33, 1, 24, [.slice none 0 0]⟩
@[reducible] def k61 : TI := ⟨.fn, 1, 8, [.nilFunc]⟩
@[reducible] def k62 : TI := ⟨.fn, 1, 8, [.nilFunc]⟩
@[reducible] def k63 : TI := ⟨.fn, 1, 8, [.nilFunc]⟩
@[reducible] def k64 : TI := ⟨.fn, 1, 8, [.nilFunc]⟩
@[reducible] def k65 : TI := ⟨.fn, 1, 8, [.nilFunc]⟩
@[reducible] def k66 : TI := ⟨.fn, 1, 8, [.nilFunc]⟩
@[reducible] def k67 : TI := ⟨.fn, 1, 8, [.nilFunc]⟩
@[reducible] def k68 : TI := ⟨.ifc, 1, 16, [.nilIface]⟩
@[reducible] def k69 : TI := ⟨.ifc, 1, 16, [.nilIface]⟩
@[reducible] def k71 : TI := ⟨.fn, 1, 8, [.nilFunc]⟩
@[reducible] def k72 : TI := ⟨.fn, 1, 8, [.nilFunc]⟩
@[reducible] def k73 : TI := ⟨.fn, 1, 8, [.nilFunc]⟩
@[reducible] def k75 : TI := ⟨.fn, 1, 8, [.nilFunc]⟩
@[reducible] def k76 : TI := ⟨.fn, 1, 8, [.nilFunc]⟩
@[reducible] def k77 : TI := ⟨.struct [(0, 25), (3, 23)], 4, 32, [.float .f64 0, .float .f64 0, .float .f64 0, .float .f64 0]⟩
@[reducible] def k78 : TI := ⟨.struct [(0, 25), (3, 23)], 4, 32, [.float .f64 0, .float .f64 0, .float .f64 0, .float .f64 0]⟩
@[reducible] def k79 : TI := ⟨.struct [(0, 25), (3, 25)], 6, 48, [.float .f64 0, .float .f64 0, .float .f64 0, .float .f64 0, .float .f64 0, .float .f64 0]⟩
@[reducible] def k80 : TI := ⟨.struct [(0, 25), (3, 25)], 6, 48, [.float .f64 0, .float .f64 0, .float .f64 0, .float .f64 0, .float .f64 0, .float .f64 0]⟩
@[reducible] def k81 : TI := ⟨.struct [(0, 80)], 6, 48, [.float .f64 0, .float .f64 0, .float .f64 0, .float .f64 0, .float .f64 0, .float .f64 0]⟩
@[reducible] def k82 : TI := ⟨.struct [(0, 80)], 6, 48, [.float .f64 0, .float .f64 0, .float .f64 0, .float .f64 0, .float .f64 0, .float .f64 0]⟩
@[reducible] def k83 : TI := ⟨.struct [(0, 25), (3, 25), (6, 25)], 9, 72, [.float .f64 0, .float .f64 0, .float .f64 0, .float .f64 0, .float .f64 0, .float .f64 0, .float .f64 0, .float .f64 0, .float .f64 0]⟩
@[reducible] def k84 : TI := ⟨.struct [(0, 25), (3, 25), (6, 25)], 9, 72, [.float .f64 0, .float .f64 0, .float .f64 0, .float .f64 0, .float .f64 0, .float .f64 0, .float .f64 0, .float .f64 0, .float .f64 0]⟩
@[reducible] def k85 : TI := ⟨.struct [(0, 25), (3, 25), (6, 23)], 7, 56, [.float .f64 0, .float .f64 0, .float .f64 0, .float .f64 0, .float .f64 0, .float .f64 0, .float .f64 0]⟩
@[reducible] def k86 : TI := ⟨.struct [(0, 25), (3, 25), (6, 23)], 7, 56, [.float .f64 0, .float .f64 0, .float .f64 0, .float .f64 0, .float .f64 0, .float .f64 0, .float .f64 0]⟩
@[reducible] def k87 : TI := ⟨.struct [(0, 25), (3, 25), (6, 23)], 7, 56, [.float .f64 0, .float .f64 0, .float .f64 0, .float .f64 0, .float .f64 0, .float .f64 0, .float .f64 0]⟩
@[reducible] def k88 : TI := ⟨.struct [(0, 25), (3, 25), (6, 23)], 7, 56, [.float .f64 0, .float .f64 0, .float .f64 0, .float .f64 0, .float .f64 0, .float .f64 0, .float .f64 0]⟩
@[reducible] def k89 : TI := ⟨.struct [(0, 25), (3, 25), (6, 23), (7, 23)], 8, 64, [.float .f64 0, .float .f64 0, .float .f64 0, .float .f64 0, .float .f64 0, .float .f64 0, .float .f64 0, .float .f64 0]⟩
@[reducible] def k90 : TI := ⟨.struct [(0, 25), (3, 25), (6, 23), (7, 23)], 8, 64, [.float .f64 0, .float .f64 0, .float .f64 0, .float .f64 0, .float .f64 0, .float .f64 0, .float .f64 0, .float .f64 0]⟩
@[reducible] def k91 : TI := ⟨.fn, 1, 8, [.nilFunc]⟩
@[reducible] def k92 : TI := ⟨.ifc, 1, 16, [.nilIface]⟩
@[reducible] def k93 : TI := ⟨.ifc, 1, 16, [.nilIface]⟩
@[reducible] def k96 : TI := ⟨.fn, 1, 8, [.nilFunc]⟩
@[reducible] def k97 : TI := ⟨.fn, 1, 8, [.nilFunc]⟩
@[reducible] def k98 : TI := ⟨.fn, 1, 8, [.nilFunc]⟩
@[reducible] def k99 : TI := ⟨.fn, 1, 8, [.nilFunc]⟩
@[reducible] def k100 : TI := ⟨.sl 23, 1, 24, [.slice none 0 0]⟩
@[reducible] def k101 : TI := ⟨.fn, 1, 8, [.nilFunc]⟩
@[reducible] def k104 : TI := ⟨.fn, 1, 8, [.nilFunc]⟩
@[reducible] def k107 : TI := ⟨.fn, 1, 8, [.nilFunc]⟩
@[reducible] def k109 : TI := ⟨.fn, 1, 8, [.nilFunc]⟩
@[reducible] def k111 : TI := ⟨.struct [(0, 23), (1, 23), (2, 4)], 3, 24, [.float .f64 0, .float .f64 0, .bool false]⟩
@[reducible] def k112 : TI := ⟨.struct [(0, 23), (1, 23), (2, 4)], 3, 24, [.float .f64 0, .float .f64 0, .bool false]⟩
@[reducible] def k113 : TI := ⟨.fn, 1, 8, [.nilFunc]⟩
@[reducible] def k114 : TI := ⟨.fn, 1, 8, [.nilFunc]⟩
@[reducible] def k115 : TI := ⟨.ptr, 1, 8, [.pointer none]⟩
@[reducible] def k116 : TI := ⟨.fn, 1, 8, [.nilFunc]⟩
@[reducible] def k117 : TI := ⟨.fn, 1, 8, [.nilFunc]⟩
@[reducible] def k118 : TI := ⟨.struct [(0, 17), (1, 17), (2, 17), (3, 9)], 4, 40, [.pointer none, .pointer none, .pointer none, .string ⟨#[]⟩]⟩
@[reducible] def k119 : TI := ⟨.struct [(0, 17), (1, 17), (2, 17), (3, 9)], 4, 40, [.pointer none, .pointer none, .pointer none, .string ⟨#[]⟩]⟩
@[reducible] def k120 : TI := ⟨.arr 0 16, 0, 0, []⟩
@[reducible] def k121 : TI := ⟨.struct [(0, 120)], 0, 0, []⟩
@[reducible] def k122 : TI := ⟨.struct [(0, 120)], 0, 0, []⟩
@[reducible] def k123 : TI := ⟨.fn, 1, 8, [.nilFunc]⟩
@[reducible] def k124 : TI := ⟨.int .u32, 1, 4, [.int .u32 0]⟩
@[reducible] def k125 : TI := ⟨.int .u8, 1, 1, [.int .u8 0]⟩
@[reducible] def k126 : TI := ⟨.int .u8, 1, 1, [.int .u8 0]⟩
@[reducible] def k127 : TI := ⟨.fn, 1, 8, [.nilFunc]⟩
@[reducible] def k128 : TI := ⟨.ptr, 1, 8, [.pointer none]⟩
@[reducible] def k129 : TI := ⟨.int .i32, 1, 4, [.int .i32 0]⟩
@[reducible] def k130 : TI := ⟨.int .i32, 1, 4, [.int .i32 0]⟩
@[reducible] def k131 : TI := ⟨.struct [(0, 12), (1, 12), (2, 124), (3, 125), (4, 5), (5, 5), (6, 126), (7, 127), (8, 128), (9, 129), (10, 130)], 11, 48, [.int .u64 0, .int .u64 0, .int .u32 0, .int .u8 0, .int .u8 0, .int .u8 0, .int .u8 0, .nilFunc, .pointer none, .int .i32 0, .int .i32 0]⟩
@[reducible] def k132 : TI := ⟨.struct [(0, 12), (1, 12), (2, 124), (3, 125), (4, 5), (5, 5), (6, 126), (7, 127), (8, 128), (9, 129), (10, 130)], 11, 48, [.int .u64 0, .int .u64 0, .int .u32 0, .int .u8 0, .int .u8 0, .int .u8 0, .int .u8 0, .nilFunc, .pointer none, .int .i32 0, .int .i32 0]⟩
@[reducible] def k133 : TI := ⟨.fn, 1, 8, [.nilFunc]⟩
@[reducible] def k134 : TI := ⟨.fn, 1, 8, [.nilFunc]⟩
@[reducible] def k135 : TI := ⟨.fn, 1, 8, [.nilFunc]⟩
@[reducible] def k136 : TI := ⟨.fn, 1, 8, [.nilFunc]⟩
@[reducible] def k137 : TI := ⟨.fn, 1, 8, [.nilFunc]⟩
def tree : TT :=
  (.node 65 k65 (.node 32 k32 (.node 16 k16 (.node 8 k8 (.node 4 k4 (.node 2 k2 (.node 1 k1 .nil .nil) (.node 3 k3 .nil .nil)) (.node 6 k6 (.node 5 k5 .nil .nil) (.node 7 k7 .nil .nil))) (.node 12 k12 (.node 10 k10 (.node 9 k9 .nil .nil) (.node 11 k11 .nil .nil)) (.node 14 k14 (.node 13 k13 .nil .nil) (.node 15 k15 .nil .nil)))) (.node 24 k24 (.node 20 k20 (.node 18 k18 (.node 17 k17 .nil .nil) (.node 19 k19 .nil .nil)) (.node 22 k22 (.node 21 k21 .nil .nil) (.node 23 k23 .nil .nil))) (.node 28 k28 (.node 26 k26 (.node 25 k25 .nil .nil) (.node 27 k27 .nil .nil)) (.node 30 k30 (.node 29 k29 .nil .nil) (.node 31 k31 .nil .nil))))) (.node 50 k50 (.node 41 k41 (.node 37 k37 (.node 34 k34 (.node 33 k33 .nil .nil) (.node 36 k36 .nil .nil)) (.node 39 k39 (.node 38 k38 .nil .nil) (.node 40 k40 .nil .nil))) (.node 45 k45 (.node 43 k43 (.node 42 k42 .nil .nil) (.node 44 k44 .nil .nil)) (.node 48 k48 (.node 47 k47 .nil .nil) (.node 49 k49 .nil .nil)))) (.node 58 k58 (.node 54 k54 (.node 52 k52 (.node 51 k51 .nil .nil) (.node 53 k53 .nil .nil)) (.node 56 k56 (.node 55 k55 .nil .nil) (.node 57 k57 .nil .nil))) (.node 62 k62 (.node 60 k60 (.node 59 k59 .nil .nil) (.node 61 k61 .nil .nil)) (.node 64 k64 (.node 63 k63 .nil .nil) .nil))))) (.node 101 k101 (.node 83 k83 (.node 75 k75 (.node 69 k69 (.node 67 k67 (.node 66 k66 .nil .nil) (.node 68 k68 .nil .nil)) (.node 72 k72 (.node 71 k71 .nil .nil) (.node 73 k73 .nil .nil))) (.node 79 k79 (.node 77 k77 (.node 76 k76 .nil .nil) (.node 78 k78 .nil .nil)) (.node 81 k81 (.node 80 k80 .nil .nil) (.node 82 k82 .nil .nil)))) (.node 91 k91 (.node 87 k87 (.node 85 k85 (.node 84 k84 .nil .nil) (.node 86 k86 .nil .nil)) (.node 89 k89 (.node 88 k88 .nil .nil) (.node 90 k90 .nil .nil))) (.node 97 k97 (.node 93 k93 (.node 92 k92 .nil .nil) (.node 96 k96 .nil .nil)) (.node 99 k99 (.node 98 k98 .nil .nil) (.node 100 k100 .nil .nil))))) (.node 123 k123 (.node 115 k115 (.node 111 k111 (.node 107 k107 (.node 104 k104 .nil .nil) (.node 109 k109 .nil .nil)) (.node 113 k113 (.node 112 k112 .nil .nil) (.node 114 k114 .nil .nil))) (.node 119 k119 (.node 117 k117 (.node 116 k116 .nil .nil) (.node 118 k118 .nil .nil)) (.node 121 k121 (.node 120 k120 .nil .nil) (.node 122 k122 .nil .nil)))) (.node 131 k131 (.node 127 k127 (.node 125 k125 (.node 124 k124 .nil .nil) (.node 126 k126 .nil .nil)) (.node 129 k129 (.node 128 k128 .nil .nil) (.node 130 k130 .nil .nil))) (.node 135 k135 (.node 133 k133 (.node 132 k132 .nil .nil) (.node 134 k134 .nil .nil)) (.node 137 k137 (.node 136 k136 .nil .nil) .nil))))))
def eqs : ET :=
  .node 25 [.flt, .flt, .flt] (.node 27 [.int .i64, .flt, .flt, .flt, .flt, .flt, .flt, .flt, .flt, .flt, .flt, .flt, .int .i64] (.node 29 [.int .i64, .int .i64, .int .i64, .int .i64, .flt, .flt, .flt, .flt, .flt, .flt, .flt, .flt, .flt, .flt, .flt, .int .i64] (.node 38 [.flt, .flt, .flt, .flt, .flt, .flt, .flt] (.node 40 [.flt, .int .i64, .bool] (.node 42 [.flt, .int .i64, .bool, .flt, .int .i64, .bool] (.node 78 [.flt, .flt, .flt, .flt] (.node 80 [.flt, .flt, .flt, .flt, .flt, .flt] (.node 82 [.flt, .flt, .flt, .flt, .flt, .flt] (.node 84 [.flt, .flt, .flt, .flt, .flt, .flt, .flt, .flt, .flt] (.node 86 [.flt, .flt, .flt, .flt, .flt, .flt, .flt] (.node 88 [.flt, .flt, .flt, .flt, .flt, .flt, .flt] (.node 90 [.flt, .flt, .flt, .flt, .flt, .flt, .flt, .flt] (.node 112 [.flt, .flt, .bool] (.nil))))))))))))))
def mts : MT :=
  .node 78 "rayhouse/shape.bounds" 66 (.node 78 "rayhouse/shape.normal" 67 (.node 78 "rayhouse/shape.strike" 68 (.node 78 "rayhouse/shape.within" 69 (.node 82 "rayhouse/shape.bounds" 74 (.node 82 "rayhouse/shape.normal" 75 (.node 82 "rayhouse/shape.strike" 76 (.node 82 "rayhouse/shape.within" 77 (.node 84 "rayhouse/shape.bounds" 78 (.node 84 "rayhouse/shape.normal" 79 (.node 84 "rayhouse/shape.strike" 80 (.node 86 "rayhouse/shape.bounds" 83 (.node 86 "rayhouse/shape.normal" 84 (.node 86 "rayhouse/shape.strike" 85 (.node 88 "rayhouse/shape.bounds" 86 (.node 88 "rayhouse/shape.normal" 87 (.node 88 "rayhouse/shape.strike" 88 (.node 88 "rayhouse/shape.within" 89 (.node 90 "rayhouse/shape.bounds" 92 (.node 90 "rayhouse/shape.normal" 93 (.node 90 "rayhouse/shape.strike" 94 (.nil)))))))))))))))))))))
def ims : IT :=
  .node 68 78 (.node 68 82 (.node 68 84 (.node 68 86 (.node 68 88 (.node 68 90 (.node 69 78 (.node 69 82 (.node 69 84 (.node 69 86 (.node 69 88 (.node 69 90 (.node 92 78 (.node 92 82 (.node 92 88 (.node 93 78 (.node 93 82 (.node 93 88 (.nil))))))))))))))))))
theorem ims_ok : ims.okB Try.prog = true := by kernel_rfl
def cx : Cx := ⟨tree.get, eqs.get, mts.get, ims.get⟩
theorem mts_ok : mts.okB Try.prog = true := by kernel_rfl
theorem eqs_ok : eqs.okB Try.prog = true := by kernel_rfl
theorem tree_ok : tree.okB Try.prog = true := by kernel_rfl
theorem cx_ok : cx.ok Try.prog := ⟨TT.ok tree tree_ok, ET.ok eqs eqs_ok, MT.ok mts mts_ok, IT.ok ims ims_ok⟩
theorem s1 : (cx.ti 1).size = 1 := rfl
theorem b1 : (cx.ti 1).bytes = 8 := rfl
theorem s2 : (cx.ti 2).size = 1 := rfl
theorem b2 : (cx.ti 2).bytes = 8 := rfl
theorem s3 : (cx.ti 3).size = 1 := rfl
theorem b3 : (cx.ti 3).bytes = 8 := rfl
theorem s4 : (cx.ti 4).size = 1 := rfl
theorem b4 : (cx.ti 4).bytes = 1 := rfl
theorem s5 : (cx.ti 5).size = 1 := rfl
theorem b5 : (cx.ti 5).bytes = 1 := rfl
theorem s6 : (cx.ti 6).size = 1 := rfl
theorem b6 : (cx.ti 6).bytes = 1 := rfl
theorem s7 : (cx.ti 7).size = 4 := rfl
theorem b7 : (cx.ti 7).bytes = 24 := rfl
theorem s8 : (cx.ti 8).size = 4 := rfl
theorem b8 : (cx.ti 8).bytes = 24 := rfl
theorem s9 : (cx.ti 9).size = 1 := rfl
theorem b9 : (cx.ti 9).bytes = 16 := rfl
theorem s10 : (cx.ti 10).size = 1 := rfl
theorem b10 : (cx.ti 10).bytes = 16 := rfl
theorem s11 : (cx.ti 11).size = 1 := rfl
theorem b11 : (cx.ti 11).bytes = 16 := rfl
theorem s12 : (cx.ti 12).size = 1 := rfl
theorem b12 : (cx.ti 12).bytes = 8 := rfl
theorem s13 : (cx.ti 13).size = 2 := rfl
theorem b13 : (cx.ti 13).bytes = 24 := rfl
theorem s14 : (cx.ti 14).size = 2 := rfl
theorem b14 : (cx.ti 14).bytes = 24 := rfl
theorem s15 : (cx.ti 15).size = 1 := rfl
theorem b15 : (cx.ti 15).bytes = 8 := rfl
theorem s16 : (cx.ti 16).size = 1 := rfl
theorem b16 : (cx.ti 16).bytes = 8 := rfl
theorem s17 : (cx.ti 17).size = 1 := rfl
theorem b17 : (cx.ti 17).bytes = 8 := rfl
theorem s18 : (cx.ti 18).size = 1 := rfl
theorem b18 : (cx.ti 18).bytes = 8 := rfl
theorem s19 : (cx.ti 19).size = 1 := rfl
theorem b19 : (cx.ti 19).bytes = 8 := rfl
theorem s20 : (cx.ti 20).size = 1 := rfl
theorem b20 : (cx.ti 20).bytes = 16 := rfl
theorem s21 : (cx.ti 21).size = 1 := rfl
theorem b21 : (cx.ti 21).bytes = 4 := rfl
theorem s22 : (cx.ti 22).size = 1 := rfl
theorem b22 : (cx.ti 22).bytes = 24 := rfl
theorem s23 : (cx.ti 23).size = 1 := rfl
theorem b23 : (cx.ti 23).bytes = 8 := rfl
theorem s24 : (cx.ti 24).size = 3 := rfl
theorem b24 : (cx.ti 24).bytes = 24 := rfl
theorem s25 : (cx.ti 25).size = 3 := rfl
theorem b25 : (cx.ti 25).bytes = 24 := rfl
theorem s26 : (cx.ti 26).size = 13 := rfl
theorem b26 : (cx.ti 26).bytes = 104 := rfl
theorem s27 : (cx.ti 27).size = 13 := rfl
theorem b27 : (cx.ti 27).bytes = 104 := rfl
theorem s28 : (cx.ti 28).size = 16 := rfl
theorem b28 : (cx.ti 28).bytes = 128 := rfl
theorem s29 : (cx.ti 29).size = 16 := rfl
theorem b29 : (cx.ti 29).bytes = 128 := rfl
theorem s30 : (cx.ti 30).size = 1 := rfl
theorem b30 : (cx.ti 30).bytes = 24 := rfl
theorem s31 : (cx.ti 31).size = 2 := rfl
theorem b31 : (cx.ti 31).bytes = 32 := rfl
theorem s32 : (cx.ti 32).size = 2 := rfl
theorem b32 : (cx.ti 32).bytes = 32 := rfl
theorem s33 : (cx.ti 33).size = 1 := rfl
theorem b33 : (cx.ti 33).bytes = 24 := rfl
theorem s34 : (cx.ti 34).size = 1 := rfl
theorem b34 : (cx.ti 34).bytes = 8 := rfl
theorem s36 : (cx.ti 36).size = 1 := rfl
theorem b36 : (cx.ti 36).bytes = 8 := rfl
theorem s37 : (cx.ti 37).size = 7 := rfl
theorem b37 : (cx.ti 37).bytes = 56 := rfl
theorem s38 : (cx.ti 38).size = 7 := rfl
theorem b38 : (cx.ti 38).bytes = 56 := rfl
theorem s39 : (cx.ti 39).size = 3 := rfl
theorem b39 : (cx.ti 39).bytes = 24 := rfl
theorem s40 : (cx.ti 40).size = 3 := rfl
theorem b40 : (cx.ti 40).bytes = 24 := rfl
theorem s41 : (cx.ti 41).size = 6 := rfl
theorem b41 : (cx.ti 41).bytes = 48 := rfl
theorem s42 : (cx.ti 42).size = 6 := rfl
theorem b42 : (cx.ti 42).bytes = 48 := rfl
theorem s43 : (cx.ti 43).size = 1 := rfl
theorem b43 : (cx.ti 43).bytes = 8 := rfl
theorem s44 : (cx.ti 44).size = 1 := rfl
theorem b44 : (cx.ti 44).bytes = 8 := rfl
theorem s45 : (cx.ti 45).size = 1 := rfl
theorem b45 : (cx.ti 45).bytes = 8 := rfl
theorem s47 : (cx.ti 47).size = 1 := rfl
theorem b47 : (cx.ti 47).bytes = 8 := rfl
theorem s48 : (cx.ti 48).size = 1 := rfl
theorem b48 : (cx.ti 48).bytes = 8 := rfl
theorem s49 : (cx.ti 49).size = 1 := rfl
theorem b49 : (cx.ti 49).bytes = 8 := rfl
theorem s50 : (cx.ti 50).size = 1 := rfl
theorem b50 : (cx.ti 50).bytes = 8 := rfl
theorem s51 : (cx.ti 51).size = 1 := rfl
theorem b51 : (cx.ti 51).bytes = 8 := rfl
theorem s52 : (cx.ti 52).size = 1 := rfl
theorem b52 : (cx.ti 52).bytes = 8 := rfl
theorem s53 : (cx.ti 53).size = 1 := rfl
theorem b53 : (cx.ti 53).bytes = 8 := rfl
theorem s54 : (cx.ti 54).size = 1 := rfl
theorem b54 : (cx.ti 54).bytes = 8 := rfl
theorem s55 : (cx.ti 55).size = 1 := rfl
theorem b55 : (cx.ti 55).bytes = 8 := rfl
theorem s56 : (cx.ti 56).size = 1 := rfl
theorem b56 : (cx.ti 56).bytes = 8 := rfl
theorem s57 : (cx.ti 57).size = 1 := rfl
theorem b57 : (cx.ti 57).bytes = 8 := rfl
theorem s58 : (cx.ti 58).size = 1 := rfl
theorem b58 : (cx.ti 58).bytes = 8 := rfl
theorem s59 : (cx.ti 59).size = 1 := rfl
theorem b59 : (cx.ti 59).bytes = 8 := rfl
theorem s60 : (cx.ti 60).size = 1 := rfl
theorem b60 : (cx.ti 60).bytes = 24 := rfl
theorem s61 : (cx.ti 61).size = 1 := rfl
theorem b61 : (cx.ti 61).bytes = 8 := rfl
theorem s62 : (cx.ti 62).size = 1 := rfl
theorem b62 : (cx.ti 62).bytes = 8 := rfl
theorem s63 : (cx.ti 63).size = 1 := rfl
theorem b63 : (cx.ti 63).bytes = 8 := rfl
theorem s64 : (cx.ti 64).size = 1 := rfl
theorem b64 : (cx.ti 64).bytes = 8 := rfl
theorem s65 : (cx.ti 65).size = 1 := rfl
theorem b65 : (cx.ti 65).bytes = 8 := rfl
theorem s66 : (cx.ti 66).size = 1 := rfl
theorem b66 : (cx.ti 66).bytes = 8 := rfl
theorem s67 : (cx.ti 67).size = 1 := rfl
theorem b67 : (cx.ti 67).bytes = 8 := rfl
theorem s68 : (cx.ti 68).size = 1 := rfl
theorem b68 : (cx.ti 68).bytes = 16 := rfl
theorem s69 : (cx.ti 69).size = 1 := rfl
theorem b69 : (cx.ti 69).bytes = 16 := rfl
theorem s71 : (cx.ti 71).size = 1 := rfl
theorem b71 : (cx.ti 71).bytes = 8 := rfl
theorem s72 : (cx.ti 72).size = 1 := rfl
theorem b72 : (cx.ti 72).bytes = 8 := rfl
theorem s73 : (cx.ti 73).size = 1 := rfl
theorem b73 : (cx.ti 73).bytes = 8 := rfl
theorem s75 : (cx.ti 75).size = 1 := rfl
theorem b75 : (cx.ti 75).bytes = 8 := rfl
theorem s76 : (cx.ti 76).size = 1 := rfl
theorem b76 : (cx.ti 76).bytes = 8 := rfl
theorem s77 : (cx.ti 77).size = 4 := rfl
theorem b77 : (cx.ti 77).bytes = 32 := rfl
theorem s78 : (cx.ti 78).size = 4 := rfl
theorem b78 : (cx.ti 78).bytes = 32 := rfl
theorem s79 : (cx.ti 79).size = 6 := rfl
theorem b79 : (cx.ti 79).bytes = 48 := rfl
theorem s80 : (cx.ti 80).size = 6 := rfl
theorem b80 : (cx.ti 80).bytes = 48 := rfl
theorem s81 : (cx.ti 81).size = 6 := rfl
theorem b81 : (cx.ti 81).bytes = 48 := rfl
theorem s82 : (cx.ti 82).size = 6 := rfl
theorem b82 : (cx.ti 82).bytes = 48 := rfl
theorem s83 : (cx.ti 83).size = 9 := rfl
theorem b83 : (cx.ti 83).bytes = 72 := rfl
theorem s84 : (cx.ti 84).size = 9 := rfl
theorem b84 : (cx.ti 84).bytes = 72 := rfl
theorem s85 : (cx.ti 85).size = 7 := rfl
theorem b85 : (cx.ti 85).bytes = 56 := rfl
theorem s86 : (cx.ti 86).size = 7 := rfl
theorem b86 : (cx.ti 86).bytes = 56 := rfl
theorem s87 : (cx.ti 87).size = 7 := rfl
theorem b87 : (cx.ti 87).bytes = 56 := rfl
theorem s88 : (cx.ti 88).size = 7 := rfl
theorem b88 : (cx.ti 88).bytes = 56 := rfl
theorem s89 : (cx.ti 89).size = 8 := rfl
theorem b89 : (cx.ti 89).bytes = 64 := rfl
theorem s90 : (cx.ti 90).size = 8 := rfl
theorem b90 : (cx.ti 90).bytes = 64 := rfl
theorem s91 : (cx.ti 91).size = 1 := rfl
theorem b91 : (cx.ti 91).bytes = 8 := rfl
theorem s92 : (cx.ti 92).size = 1 := rfl
theorem b92 : (cx.ti 92).bytes = 16 := rfl
theorem s93 : (cx.ti 93).size = 1 := rfl
theorem b93 : (cx.ti 93).bytes = 16 := rfl
theorem s96 : (cx.ti 96).size = 1 := rfl
theorem b96 : (cx.ti 96).bytes = 8 := rfl
theorem s97 : (cx.ti 97).size = 1 := rfl
theorem b97 : (cx.ti 97).bytes = 8 := rfl
theorem s98 : (cx.ti 98).size = 1 := rfl
theorem b98 : (cx.ti 98).bytes = 8 := rfl
theorem s99 : (cx.ti 99).size = 1 := rfl
theorem b99 : (cx.ti 99).bytes = 8 := rfl
theorem s100 : (cx.ti 100).size = 1 := rfl
theorem b100 : (cx.ti 100).bytes = 24 := rfl
theorem s101 : (cx.ti 101).size = 1 := rfl
theorem b101 : (cx.ti 101).bytes = 8 := rfl
theorem s104 : (cx.ti 104).size = 1 := rfl
theorem b104 : (cx.ti 104).bytes = 8 := rfl
theorem s107 : (cx.ti 107).size = 1 := rfl
theorem b107 : (cx.ti 107).bytes = 8 := rfl
theorem s109 : (cx.ti 109).size = 1 := rfl
theorem b109 : (cx.ti 109).bytes = 8 := rfl
theorem s111 : (cx.ti 111).size = 3 := rfl
theorem b111 : (cx.ti 111).bytes = 24 := rfl
theorem s112 : (cx.ti 112).size = 3 := rfl
theorem b112 : (cx.ti 112).bytes = 24 := rfl
theorem s113 : (cx.ti 113).size = 1 := rfl
theorem b113 : (cx.ti 113).bytes = 8 := rfl
theorem s114 : (cx.ti 114).size = 1 := rfl
theorem b114 : (cx.ti 114).bytes = 8 := rfl
theorem s115 : (cx.ti 115).size = 1 := rfl
theorem b115 : (cx.ti 115).bytes = 8 := rfl
theorem s116 : (cx.ti 116).size = 1 := rfl
theorem b116 : (cx.ti 116).bytes = 8 := rfl
theorem s117 : (cx.ti 117).size = 1 := rfl
theorem b117 : (cx.ti 117).bytes = 8 := rfl
theorem s118 : (cx.ti 118).size = 4 := rfl
theorem b118 : (cx.ti 118).bytes = 40 := rfl
theorem s119 : (cx.ti 119).size = 4 := rfl
theorem b119 : (cx.ti 119).bytes = 40 := rfl
theorem s120 : (cx.ti 120).size = 0 := rfl
theorem b120 : (cx.ti 120).bytes = 0 := rfl
theorem s121 : (cx.ti 121).size = 0 := rfl
theorem b121 : (cx.ti 121).bytes = 0 := rfl
theorem s122 : (cx.ti 122).size = 0 := rfl
theorem b122 : (cx.ti 122).bytes = 0 := rfl
theorem s123 : (cx.ti 123).size = 1 := rfl
theorem b123 : (cx.ti 123).bytes = 8 := rfl
theorem s124 : (cx.ti 124).size = 1 := rfl
theorem b124 : (cx.ti 124).bytes = 4 := rfl
theorem s125 : (cx.ti 125).size = 1 := rfl
theorem b125 : (cx.ti 125).bytes = 1 := rfl
theorem s126 : (cx.ti 126).size = 1 := rfl
theorem b126 : (cx.ti 126).bytes = 1 := rfl
theorem s127 : (cx.ti 127).size = 1 := rfl
theorem b127 : (cx.ti 127).bytes = 8 := rfl
theorem s128 : (cx.ti 128).size = 1 := rfl
theorem b128 : (cx.ti 128).bytes = 8 := rfl
theorem s129 : (cx.ti 129).size = 1 := rfl
theorem b129 : (cx.ti 129).bytes = 4 := rfl
theorem s130 : (cx.ti 130).size = 1 := rfl
theorem b130 : (cx.ti 130).bytes = 4 := rfl
theorem s131 : (cx.ti 131).size = 11 := rfl
theorem b131 : (cx.ti 131).bytes = 48 := rfl
theorem s132 : (cx.ti 132).size = 11 := rfl
theorem b132 : (cx.ti 132).bytes = 48 := rfl
theorem s133 : (cx.ti 133).size = 1 := rfl
theorem b133 : (cx.ti 133).bytes = 8 := rfl
theorem s134 : (cx.ti 134).size = 1 := rfl
theorem b134 : (cx.ti 134).bytes = 8 := rfl
theorem s135 : (cx.ti 135).size = 1 := rfl
theorem b135 : (cx.ti 135).bytes = 8 := rfl
theorem s136 : (cx.ti 136).size = 1 := rfl
theorem b136 : (cx.ti 136).bytes = 8 := rfl
theorem s137 : (cx.ti 137).size = 1 := rfl
theorem b137 : (cx.ti 137).bytes = 8 := rfl
end Tab
end Go.Proofs.Ytgbcnfcgljbbgaa
