/- The table of types of this seat's program; printed by a program. -/
import Derived.Test.YtehjhfifldefiaaEvTab
import Derived.Test.YtehjhfifldefiaaProg
namespace Go.Proofs.Ytehjhfifldefiaa
open Go.RowKit
namespace Tab
open Ev
@[reducible] def k1 : TI := ⟨.fn, 1, 8, [.nilFunc]⟩
@[reducible] def k2 : TI := ⟨.int .i64, 1, 8, [.int .i64 0]⟩
@[reducible] def k3 : TI := ⟨.int .i64, 1, 8, [.int .i64 0]⟩
@[reducible] def k4 : TI := ⟨.bool, 1, 1, [.bool false]⟩
@[reducible] def k5 : TI := ⟨.int .u8, 1, 1, [.int .u8 0]⟩
@[reducible] def k6 : TI := ⟨.int .u8, 1, 1, [.int .u8 0]⟩
@[reducible] def k7 : TI := ⟨.struct [(0, 2), (1, 3), (2, 4), (3, 6)], 4, 24, [.int .i64 0, .int .i64 0, .bool false, .int .u8 0]⟩
@[reducible] def k8 : TI := ⟨.struct [(0, 2), (1, 3), (2, 4), (3, 6)], 4, 24, [.int .i64 0, .int .i64 0, .bool false, .int .u8 0]⟩
@[reducible] def k9 : TI := ⟨.str, 1, 16, [.string ⟨#[]⟩]⟩
@[reducible] def k10 : TI := ⟨.str, 1, 16, [.string ⟨#[]⟩]⟩
@[reducible] def k11 : TI := ⟨.str, 1, 16, [.string ⟨#[]⟩]⟩
@[reducible] def k12 : TI := ⟨.int .u64, 1, 8, [.int .u64 0]⟩
@[reducible] def k13 : TI := ⟨.struct [(0, 9), (1, 12)], 2, 24, [.string ⟨#[]⟩, .int .u64 0]⟩
@[reducible] def k14 : TI := ⟨.struct [(0, 9), (1, 12)], 2, 24, [.string ⟨#[]⟩, .int .u64 0]⟩
@[reducible] def k15 : TI := ⟨.ptr, 1, 8, [.pointer none]⟩
@[reducible] def k16 : TI := ⟨.ptr, 1, 8, [.pointer none]⟩
@[reducible] def k17 : TI := ⟨.ptr, 1, 8, [.pointer none]⟩
@[reducible] def k18 : TI := ⟨.struct [(0, 17)], 1, 8, [.pointer none]⟩
@[reducible] def k19 : TI := ⟨.struct [(0, 17)], 1, 8, [.pointer none]⟩
@[reducible] def k20 : TI := ⟨.ifc, 1, 16, [.nilIface]⟩
@[reducible] def k21 : TI := ⟨.int .i32, 1, 4, [.int .i32 0]⟩
@[reducible] def k22 : TI := ⟨.sl 5, 1, 24, [.slice none 0 0]⟩
@[reducible] def k23 : TI := ⟨.sl 3, 1, 24, [.slice none 0 0]⟩
@[reducible] def k24 : TI := ⟨.struct [(0, 3), (1, 3), (2, 23), (3, 23)], 4, 64, [.int .i64 0, .int .i64 0, .slice none 0 0, .slice none 0 0]⟩
@[reducible] def k25 : TI := ⟨.struct [(0, 3), (1, 3), (2, 23), (3, 23)], 4, 64, [.int .i64 0, .int .i64 0, .slice none 0 0, .slice none 0 0]⟩
@[reducible] def k26 : TI := ⟨.int .i64, 1, 8, [.int .i64 0]⟩
@[reducible] def k28 : TI := ⟨.fn, 1, 8, [.nilFunc]⟩
@[reducible] def k29 : TI := ⟨.fn, 1, 8, [.nilFunc]⟩
@[reducible] def k30 : TI := ⟨.fn, 1, 8, [.nilFunc]⟩
@[reducible] def k31 : TI := ⟨.fn, 1, 8, [.nilFunc]⟩
@[reducible] def k33 : TI := ⟨.fn, 1, 8, [.nilFunc]⟩
@[reducible] def k34 : TI := ⟨.fn, 1, 8, [.nilFunc]⟩
@[reducible] def k35 : TI := ⟨.fn, 1, 8, [.nilFunc]⟩
@[reducible] def k36 : TI := ⟨.fn, 1, 8, [.nilFunc]⟩
@[reducible] def k37 : TI := ⟨.struct [(0, 22)], 1, 24, [.slice none 0 0]⟩
@[reducible] def k38 : TI := ⟨.struct [(0, 22)], 1, 24, [.slice none 0 0]⟩
@[reducible] def k39 : TI := ⟨.sl 25, 1, 24, [.slice none 0 0]⟩
@[reducible] def k40 : TI := ⟨.fn, 1, 8, [.nilFunc]⟩
@[reducible] def k41 : TI := ⟨.fn, 1, 8, [.nilFunc]⟩
@[reducible] def k42 : TI := ⟨.fn, 1, 8, [.nilFunc]⟩
@[reducible] def k43 : TI := ⟨.ptr, 1, 8, [.pointer none]⟩
@[reducible] def k45 : TI := ⟨.fn, 1, 8, [.nilFunc]⟩
@[reducible] def k46 : TI := ⟨.fn, 1, 8, [.nilFunc]⟩
@[reducible] def k47 : TI := ⟨.fn, 1, 8, [.nilFunc]⟩
@[reducible] def k48 : TI := ⟨.int .u32, 1, 4, [.int .u32 0]⟩
@[reducible] def k49 : TI := ⟨.fn, 1, 8, [.nilFunc]⟩
@[reducible] def k50 : TI := ⟨.fn, 1, 8, [.nilFunc]⟩
@[reducible] def k51 : TI := ⟨.fn, 1, 8, [.nilFunc]⟩
@[reducible] def k52 : TI := ⟨.fn, 1, 8, [.nilFunc]⟩
@[reducible] def k53 : TI := ⟨.int .u64, 1, 8, [.int .u64 0]⟩
@[reducible] def k54 : TI := ⟨.fn, 1, 8, [.nilFunc]⟩
@[reducible] def k55 : TI := ⟨.struct [(0, 17), (1, 17), (2, 17), (3, 9)], 4, 40, [.pointer none, .pointer none, .pointer none, .string ⟨#[]⟩]⟩
@[reducible] def k56 : TI := ⟨.struct [(0, 17), (1, 17), (2, 17), (3, 9)], 4, 40, [.pointer none, .pointer none, .pointer none, .string ⟨#[]⟩]⟩
@[reducible] def k57 : TI := ⟨.arr 0 16, 0, 0, []⟩
@[reducible] def k58 : TI := ⟨.struct [(0, 57)], 0, 0, []⟩
@[reducible] def k59 : TI := ⟨.struct [(0, 57)], 0, 0, []⟩
@[reducible] def k60 : TI := ⟨.fn, 1, 8, [.nilFunc]⟩
@[reducible] def k61 : TI := ⟨.int .u8, 1, 1, [.int .u8 0]⟩
@[reducible] def k62 : TI := ⟨.int .u8, 1, 1, [.int .u8 0]⟩
@[reducible] def k63 : TI := ⟨.fn, 1, 8, [.nilFunc]⟩
@[reducible] def k64 : TI := ⟨.ptr, 1, 8, [.pointer none]⟩
@[reducible] def k65 : TI := ⟨.int .i32, 1, 4, [.int .i32 0]⟩
@[reducible] def k66 : TI := ⟨.int .i32, 1, 4, [.int .i32 0]⟩
@[reducible] def k67 : TI := ⟨.struct [(0, 12), (1, 12), (2, 48), (3, 61), (4, 5), (5, 5), (6, 62), (7, 63), (8, 64), (9, 65), (10, 66)], 11, 48, [.int .u64 0, .int .u64 0, .int .u32 0, .int .u8 0, .int .u8 0, .int .u8 0, .int .u8 0, .nilFunc, .pointer none, .int .i32 0, .int .i32 0]⟩
@[reducible] def k68 : TI := ⟨.struct [(0, 12), (1, 12), (2, 48), (3, 61), (4, 5), (5, 5), (6, 62), (7, 63), (8, 64), (9, 65), (10, 66)], 11, 48, [.int .u64 0, .int .u64 0, .int .u32 0, .int .u8 0, .int .u8 0, .int .u8 0, .int .u8 0, .nilFunc, .pointer none, .int .i32 0, .int .i32 0]⟩
def tree : TT :=
  (.node 35 k35 (.node 17 k17 (.node 9 k9 (.node 5 k5 (.node 3 k3 (.node 2 k2 (.node 1 k1 .nil .nil) .nil) (.node 4 k4 .nil .nil)) (.node 7 k7 (.node 6 k6 .nil .nil) (.node 8 k8 .nil .nil))) (.node 13 k13 (.node 11 k11 (.node 10 k10 .nil .nil) (.node 12 k12 .nil .nil)) (.node 15 k15 (.node 14 k14 .nil .nil) (.node 16 k16 .nil .nil)))) (.node 25 k25 (.node 21 k21 (.node 19 k19 (.node 18 k18 .nil .nil) (.node 20 k20 .nil .nil)) (.node 23 k23 (.node 22 k22 .nil .nil) (.node 24 k24 .nil .nil))) (.node 30 k30 (.node 28 k28 (.node 26 k26 .nil .nil) (.node 29 k29 .nil .nil)) (.node 33 k33 (.node 31 k31 .nil .nil) (.node 34 k34 .nil .nil))))) (.node 53 k53 (.node 45 k45 (.node 40 k40 (.node 38 k38 (.node 37 k37 (.node 36 k36 .nil .nil) .nil) (.node 39 k39 .nil .nil)) (.node 42 k42 (.node 41 k41 .nil .nil) (.node 43 k43 .nil .nil))) (.node 49 k49 (.node 47 k47 (.node 46 k46 .nil .nil) (.node 48 k48 .nil .nil)) (.node 51 k51 (.node 50 k50 .nil .nil) (.node 52 k52 .nil .nil)))) (.node 61 k61 (.node 57 k57 (.node 55 k55 (.node 54 k54 .nil .nil) (.node 56 k56 .nil .nil)) (.node 59 k59 (.node 58 k58 .nil .nil) (.node 60 k60 .nil .nil))) (.node 65 k65 (.node 63 k63 (.node 62 k62 .nil .nil) (.node 64 k64 .nil .nil)) (.node 67 k67 (.node 66 k66 .nil .nil) (.node 68 k68 .nil .nil))))))
def eqs : ET :=
  .nil
def mts : MT :=
  .nil
def ims : IT :=
  .nil
theorem ims_ok : ims.okB Try.prog = true := by kernel_rfl
def cx : Cx := ⟨tree.get, eqs.get, mts.get, ims.get⟩
theorem mts_ok : mts.okB Try.prog = true := by kernel_rfl
theorem eqs_ok : eqs.okB Try.prog = true := by kernel_rfl
theorem tree_ok : tree.okB Try.prog = true := by kernel_rfl
theorem cx_ok : cx.ok Try.prog := ⟨TT.ok tree tree_ok, ET.ok eqs eqs_ok, MT.ok mts mts_ok, IT.ok ims ims_ok⟩
theorem s1 : (cx.ti 1).size = 1 := rfl
theorem b1 : (cx.ti 1).bytes = 8 := rfl
theorem s2 : (cx.ti 2).size = 1 := rfl
theorem b2 : (cx.ti 2).bytes = 8 := rfl
theorem s3 : (cx.ti 3).size = 1 := rfl
theorem b3 : (cx.ti 3).bytes = 8 := rfl
theorem s4 : (cx.ti 4).size = 1 := rfl
theorem b4 : (cx.ti 4).bytes = 1 := rfl
theorem s5 : (cx.ti 5).size = 1 := rfl
theorem b5 : (cx.ti 5).bytes = 1 := rfl
theorem s6 : (cx.ti 6).size = 1 := rfl
theorem b6 : (cx.ti 6).bytes = 1 := rfl
theorem s7 : (cx.ti 7).size = 4 := rfl
theorem b7 : (cx.ti 7).bytes = 24 := rfl
theorem s8 : (cx.ti 8).size = 4 := rfl
theorem b8 : (cx.ti 8).bytes = 24 := rfl
theorem s9 : (cx.ti 9).size = 1 := rfl
theorem b9 : (cx.ti 9).bytes = 16 := rfl
theorem s10 : (cx.ti 10).size = 1 := rfl
theorem b10 : (cx.ti 10).bytes = 16 := rfl
theorem s11 : (cx.ti 11).size = 1 := rfl
theorem b11 : (cx.ti 11).bytes = 16 := rfl
theorem s12 : (cx.ti 12).size = 1 := rfl
theorem b12 : (cx.ti 12).bytes = 8 := rfl
theorem s13 : (cx.ti 13).size = 2 := rfl
theorem b13 : (cx.ti 13).bytes = 24 := rfl
theorem s14 : (cx.ti 14).size = 2 := rfl
theorem b14 : (cx.ti 14).bytes = 24 := rfl
theorem s15 : (cx.ti 15).size = 1 := rfl
theorem b15 : (cx.ti 15).bytes = 8 := rfl
theorem s16 : (cx.ti 16).size = 1 := rfl
theorem b16 : (cx.ti 16).bytes = 8 := rfl
theorem s17 : (cx.ti 17).size = 1 := rfl
theorem b17 : (cx.ti 17).bytes = 8 := rfl
theorem s18 : (cx.ti 18).size = 1 := rfl
theorem b18 : (cx.ti 18).bytes = 8 := rfl
theorem s19 : (cx.ti 19).size = 1 := rfl
theorem b19 : (cx.ti 19).bytes = 8 := rfl
theorem s20 : (cx.ti 20).size = 1 := rfl
theorem b20 : (cx.ti 20).bytes = 16 := rfl
theorem s21 : (cx.ti 21).size = 1 := rfl
theorem b21 : (cx.ti 21).bytes = 4 := rfl
theorem s22 : (cx.ti 22).size = 1 := rfl
theorem b22 : (cx.ti 22).bytes = 24 := rfl
theorem s23 : (cx.ti 23).size = 1 := rfl
theorem b23 : (cx.ti 23).bytes = 24 := rfl
theorem s24 : (cx.ti 24).size = 4 := rfl
theorem b24 : (cx.ti 24).bytes = 64 := rfl
theorem s25 : (cx.ti 25).size = 4 := rfl
theorem b25 : (cx.ti 25).bytes = 64 := rfl
theorem s26 : (cx.ti 26).size = 1 := rfl
theorem b26 : (cx.ti 26).bytes = 8 := rfl
theorem s28 : (cx.ti 28).size = 1 := rfl
theorem b28 : (cx.ti 28).bytes = 8 := rfl
theorem s29 : (cx.ti 29).size = 1 := rfl
theorem b29 : (cx.ti 29).bytes = 8 := rfl
theorem s30 : (cx.ti 30).size = 1 := rfl
theorem b30 : (cx.ti 30).bytes = 8 := rfl
theorem s31 : (cx.ti 31).size = 1 := rfl
theorem b31 : (cx.ti 31).bytes = 8 := rfl
theorem s33 : (cx.ti 33).size = 1 := rfl
theorem b33 : (cx.ti 33).bytes = 8 := rfl
theorem s34 : (cx.ti 34).size = 1 := rfl
theorem b34 : (cx.ti 34).bytes = 8 := rfl
theorem s35 : (cx.ti 35).size = 1 := rfl
theorem b35 : (cx.ti 35).bytes = 8 := rfl
theorem s36 : (cx.ti 36).size = 1 := rfl
theorem b36 : (cx.ti 36).bytes = 8 := rfl
theorem s37 : (cx.ti 37).size = 1 := rfl
theorem b37 : (cx.ti 37).bytes = 24 := rfl
theorem s38 : (cx.ti 38).size = 1 := rfl
theorem b38 : (cx.ti 38).bytes = 24 := rfl
theorem s39 : (cx.ti 39).size = 1 := rfl
theorem b39 : (cx.ti 39).bytes = 24 := rfl
theorem s40 : (cx.ti 40).size = 1 := rfl
theorem b40 : (cx.ti 40).bytes = 8 := rfl
theorem s41 : (cx.ti 41).size = 1 := rfl
theorem b41 : (cx.ti 41).bytes = 8 := rfl
theorem s42 : (cx.ti 42).size = 1 := rfl
theorem b42 : (cx.ti 42).bytes = 8 := rfl
theorem s43 : (cx.ti 43).size = 1 := rfl
theorem b43 : (cx.ti 43).bytes = 8 := rfl
theorem s45 : (cx.ti 45).size = 1 := rfl
theorem b45 : (cx.ti 45).bytes = 8 := rfl
theorem s46 : (cx.ti 46).size = 1 := rfl
theorem b46 : (cx.ti 46).bytes = 8 := rfl
theorem s47 : (cx.ti 47).size = 1 := rfl
theorem b47 : (cx.ti 47).bytes = 8 := rfl
theorem s48 : (cx.ti 48).size = 1 := rfl
theorem b48 : (cx.ti 48).bytes = 4 := rfl
theorem s49 : (cx.ti 49).size = 1 := rfl
theorem b49 : (cx.ti 49).bytes = 8 := rfl
theorem s50 : (cx.ti 50).size = 1 := rfl
theorem b50 : (cx.ti 50).bytes = 8 := rfl
theorem s51 : (cx.ti 51).size = 1 := rfl
theorem b51 : (cx.ti 51).bytes = 8 := rfl
theorem s52 : (cx.ti 52).size = 1 := rfl
theorem b52 : (cx.ti 52).bytes = 8 := rfl
theorem s53 : (cx.ti 53).size = 1 := rfl
theorem b53 : (cx.ti 53).bytes = 8 := rfl
theorem s54 : (cx.ti 54).size = 1 := rfl
theorem b54 : (cx.ti 54).bytes = 8 := rfl
theorem s55 : (cx.ti 55).size = 4 := rfl
theorem b55 : (cx.ti 55).bytes = 40 := rfl
theorem s56 : (cx.ti 56).size = 4 := rfl
theorem b56 : (cx.ti 56).bytes = 40 := rfl
theorem s57 : (cx.ti 57).size = 0 := rfl
theorem b57 : (cx.ti 57).bytes = 0 := rfl
theorem s58 : (cx.ti 58).size = 0 := rfl
theorem b58 : (cx.ti 58).bytes = 0 := rfl
theorem s59 : (cx.ti 59).size = 0 := rfl
theorem b59 : (cx.ti 59).bytes = 0 := rfl
theorem s60 : (cx.ti 60).size = 1 := rfl
theorem b60 : (cx.ti 60).bytes = 8 := rfl
theorem s61 : (cx.ti 61).size = 1 := rfl
theorem b61 : (cx.ti 61).bytes = 1 := rfl
theorem s62 : (cx.ti 62).size = 1 := rfl
theorem b62 : (cx.ti 62).bytes = 1 := rfl
theorem s63 : (cx.ti 63).size = 1 := rfl
theorem b63 : (cx.ti 63).bytes = 8 := rfl
theorem s64 : (cx.ti 64).size = 1 := rfl
theorem b64 : (cx.ti 64).bytes = 8 := rfl
theorem s65 : (cx.ti 65).size = 1 := rfl
theorem b65 : (cx.ti 65).bytes = 4 := rfl
theorem s66 : (cx.ti 66).size = 1 := rfl
theorem b66 : (cx.ti 66).bytes = 4 := rfl
theorem s67 : (cx.ti 67).size = 11 := rfl
theorem b67 : (cx.ti 67).bytes = 48 := rfl
theorem s68 : (cx.ti 68).size = 11 := rfl
theorem b68 : (cx.ti 68).bytes = 48 := rfl
end Tab
end Go.Proofs.Ytehjhfifldefiaa
