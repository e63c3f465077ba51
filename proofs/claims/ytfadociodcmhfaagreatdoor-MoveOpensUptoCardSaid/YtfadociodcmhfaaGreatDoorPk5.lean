/- A part of the proof: lemmas only, with the conditions that each names. -/
import Derived.Test.YtfadociodcmhfaaGreatDoorProg
import Derived.KernelRfl
import Derived.Test.YtfadociodcmhfaaGreatDoorPk4
namespace Go.Proofs.YtfadociodcmhfaaGreatDoor
set_option linter.all false
open Go Eng
def ir_works_Check : IFun := ⟨89, [.tmp 2], .seq (.reg [OA 1 (.box 31 (TT 0)), OA 2 (.mv (II 0))]) (.seq (.seq (.reg [FF 7 0 1, VV 8 7, OA 9 (.len false (TT 8)), OA 10 (.bin .gtr (TT 9) (II 4)), MM 11 10, FG 12 1 1 11 false, VG 13 12 11 false, OC 14 (.len
  false (TT 13)) 11 false, OC 15 (.bin .gtr (TT 14) (II 10)) 11 false, OA 16 (.pick (TT 11) (.const (.bool true)) (TT 15)), MM 17 16, FG 18 2 1 17 false, VG 19 18 17 false, OC 20 (.len false (TT 19)) 17 false, OC 21 (.bin .gtr (TT
  20) (II 6)) 17 false, OA 22 (.pick (TT 17) (.const (.bool true)) (TT 21)), MM 23 22, FG 24 3 1 23 false, VG 25 24 23 false, OC 26 (.len false (TT 25)) 23 false, OC 27 (.bin .gtr (TT 26) (II 8)) 23 false, OA 28 (.pick (TT 23)
  (.const (.bool true)) (TT 27)), MM 29 28, FG 30 4 1 29 false, VG 31 30 29 false, OC 32 (.len false (TT 31)) 29 false, OC 33 (.bin .gtr (TT 32) (II 4)) 29 false, OA 34 (.pick (TT 29) (.const (.bool true)) (TT 33))]) (.cond (TT
  34) (.seq (.reg [OA 2 (.mv (II 2))]) .ret) .skip)) (.seq (.seq (.reg [FF 35 0 1, VV 36 35, OA 37 (.len false (TT 36)), OA 38 (.bin .eql (TT 37) (II 0))]) (.cond (TT 38) (.seq (.reg [OA 2 (.mv (II 4))]) .ret) .skip)) (.seq (.reg
  [OA 39 (.mkmap true), OA 3 (.alloc 117 [.map none]), OB (.store 1 (TT 3) (TT 39))]) (.seq (.reg [OA 40 (.clo 56 [TT 3]), MM 4 40]) (.seq (.seq (.regd [.q, .q, .q, .e none false, .l, .l, .q, .l, .l, .l, .l, .e none false, .l, .l,
  .l, .l, .e none false, .l, .l, .l, .l, .e none false, .q, .q, .l] [FF 41 0 1, VV 42 41, MM 43 4, OA 44 (.call 59 [TT 42, TT 43]), FF 45 1 1, VV 46 45, OA 47 (.call 60 [TT 46, .func 61]), FF 48 2 1, VV 49 48, VV 50 3, OA 51 (.bnd
  63 (TT 50)), OA 52 (.call 62 [TT 49, TT 51]), FF 53 3 1, VV 54 53, VV 55 3, OA 56 (.bnd 65 (TT 55)), OA 57 (.call 64 [TT 54, TT 56]), FF 58 4 1, VV 59 58, VV 60 3, OA 61 (.bnd 67 (TT 60)), OA 62 (.call 66 [TT 59, TT 61]), OA 63
  (.bsl 41 1 5 [.int .i64 0] [(0, TT 44), (1, TT 47), (2, TT 52), (3, TT 57), (4, TT 62)]), OA 64 (.len false (TT 63)), OA 65 (.mv (II 0))]) (.block 0 (.loop (.seq (.reg [OA 66 (.bin .lss (TT 65) (TT 64))]) (.seq (.cond (TT 66)
  .skip (.exit 0)) (.seq (.block 1 (.seq (.reg [OA 67 (.iaddr 1 (TT 63) (TT 65)), VV 68 67, MM 6 68]) (.seq (.reg [MM 69 6, OA 70 (.bin .neq (TT 69) (II 0))]) (.cond (TT 70) (.seq (.reg [MM 71 6, MM 2 71]) .ret) .skip)))) (.reg
  [OA 72 (.bin .add (TT 65) (II 1)), MM 65 72]))))))) (.seq (.seq (.reg [FF 73 5 1, LL 74 3 73, OA 75 (.call 68 [TT 74]), OA 76 (.un .not (TT 75)), MM 77 76, FG 78 5 1 77 false, LG 79 3 78 77 false, OC 80 (.call 69 [TT 79]) 77
  false, OC 81 (.un .not (TT 80)) 77 false, OA 82 (.pick (TT 77) (.const (.bool true)) (TT 81)), MM 83 82, FG 84 5 1 83 false, LG 85 3 84 83 false, OC 86 (.call 23 [TT 85]) 83 false, OC 87 (.bin .lss (TT 86) (II 0)) 83 false, OA
  88 (.pick (TT 83) (.const (.bool true)) (TT 87))]) (.cond (TT 88) (.seq (.reg [OA 2 (.mv (II 1))]) .ret) .skip)) (.seq (.reg [OA 2 (.mv (II 0))]) .ret)))))))⟩
theorem ok_works_Check : compF eff Tryz.prog Tryz.f11 = some ir_works_Check := by kernel_rfl
theorem fn_works_Check : Tryz.prog.funcs[11]? = some Tryz.f11 := Tryz.func11
def ir_works_Name : IFun := ⟨28, [.tmp 2], .seq (.reg [OA 2 (.mv (.const (.bool false)))]) (.seq (.seq (.reg [MM 4 0, OA 5 (.len true (TT 4)), OA 6 (.mv (II 0))]) (.block 0 (.loop (.seq (.reg [OA 7 (.bin .lss (TT 6) (TT 5))]) (.seq (.cond (TT 7) .skip (.exit
  0)) (.seq (.block 1 (.seq (.reg [MM 8 6, MM 3 8]) (.seq (.reg [MM 9 0, MM 10 3, OA 11 (.idxs (TT 9) (TT 10)), OA 12 (.bin .lss (TT 11) (.const (.int .u8 97))), MM 13 12, MG 14 0 13 false, MG 15 3 13 false, OC 16 (.idxs (TT 14)
  (TT 15)) 13 false, OC 17 (.bin .gtr (TT 16) (.const (.int .u8 122))) 13 false, OA 18 (.pick (TT 13) (.const (.bool true)) (TT 17))]) (.cond (TT 18) (.seq (.reg [OA 2 (.mv (.const (.bool false)))]) .ret) .skip)))) (.reg [OA 19
  (.bin .add (TT 6) (II 1)), MM 6 19]))))))) (.seq (.reg [MM 20 0, OA 21 (.len true (TT 20)), OA 22 (.bin .geq (TT 21) (II 1)), MM 23 22, MG 24 0 23 true, OC 25 (.len true (TT 24)) 23 true, OC 26 (.bin .leq (TT 25) (II 12)) 23
  true, OA 27 (.pick (TT 23) (TT 26) (.const (.bool false))), MM 2 27]) .ret))⟩
theorem ok_works_Name : compF eff Tryz.prog Tryz.f29 = some ir_works_Name := by kernel_rfl
theorem fn_works_Name : Tryz.prog.funcs[29]? = some Tryz.f29 := Tryz.func29
def ir_works_Frame : IFun := ⟨32, [.tmp 2], .seq (.reg [OA 1 (.box 48 (TT 0)), OA 2 (.mv (.const (.bool false)))]) (.seq (.reg [FF 3 0 1, LL 4 6 3, OA 5 (.bsl 44 6 1 [.bool false, .string ⟨#[]⟩, .string ⟨#[]⟩, .bool false, .string ⟨#[]⟩, .string ⟨#[]⟩] [(0,
  TT 4)]), OA 6 (.call 104 [TT 5]), MM 7 6, FG 8 6 1 7 true, FG 9 1 8 7 true, LG 10 3 9 7 true, OC 11 (.call 68 [TT 10]) 7 true, OA 12 (.pick (TT 7) (TT 11) (.const (.bool false))), MM 13 12, FG 14 6 1 13 true, FG 15 1 14 13 true,
  LG 16 3 15 13 true, OC 17 (.call 69 [TT 16]) 13 true, OA 18 (.pick (TT 13) (TT 17) (.const (.bool false))), MM 19 18, FG 20 6 1 19 true, FG 21 0 20 19 true, VG 22 21 19 true, OC 23 (.un .not (TT 22)) 19 true, MG 24 23 19 true,
  FG 25 6 1 24 false, FG 26 1 25 24 false, LG 27 3 26 24 false, OC 28 (.call 23 [TT 27]) 24 false, OC 29 (.bin .eql (TT 28) (II 0)) 24 false, OC 30 (.pick (TT 24) (.const (.bool true)) (TT 29)) 19 true, OA 31 (.pick (TT 19) (TT
  30) (.const (.bool false))), MM 2 31]) .ret)⟩
theorem ok_works_Frame : compF eff Tryz.prog Tryz.f31 = some ir_works_Frame := by kernel_rfl
theorem fn_works_Frame : Tryz.prog.funcs[31]? = some Tryz.f31 := Tryz.func31
def ir_works_Check_1 : IFun := ⟨14, [.tmp 3], .seq (.reg [OA 2 (.box 51 (TT 0)), OA 3 (.mv (II 0))]) (.seq (.seq (.reg [LL 5 12 2, OA 6 (.call 57 [TT 5]), MM 4 6]) (.seq (.reg [MM 7 4, OA 8 (.bin .neq (TT 7) (II 0))]) (.cond (TT 8) (.seq (.reg [MM 9 4, MM 3 9])
  .ret) .skip))) (.seq (.reg [VV 10 1, FF 11 0 2, VV 12 11, OA 13 (.call 58 [TT 10, TT 12]), MM 3 13]) .ret))⟩
theorem ok_works_Check_1 : compF eff Tryz.prog Tryz.f56 = some ir_works_Check_1 := by kernel_rfl
theorem fn_works_Check_1 : Tryz.prog.funcs[56]? = some Tryz.f56 := Tryz.func56
def ir_works_each_api_Arm : IFun := ⟨21, [.tmp 4], .seq (.reg [OA 4 (.mv (II 0))]) (.seq (.seq (.reg [MM 8 0, OA 9 (.len false (TT 8)), OA 10 (.mv (II 0))]) (.block 0 (.loop (.seq (.reg [OA 11 (.bin .lss (TT 10) (TT 9))]) (.seq (.cond (TT 11) .skip (.exit 0)) (.seq
  (.block 1 (.seq (.reg [OA 12 (.iaddr 12 (TT 8) (TT 10)), LL 13 12 12, OA 6 (.alloc 51 [.string ⟨#[]⟩, .bool false, .string ⟨#[]⟩, .string ⟨#[]⟩, .bool false, .string ⟨#[]⟩, .string ⟨#[]⟩, .bool false, .bool false, .string ⟨#[]⟩,
  .string ⟨#[]⟩, .slice none 0 0]), OB (.store 12 (TT 6) (TT 13))]) (.seq (.reg [MM 14 1, LL 15 12 6, OA 16 (.callv (TT 14) [TT 15]), MM 7 16]) (.seq (.reg [MM 17 7, OA 18 (.bin .neq (TT 17) (II 0))]) (.cond (TT 18) (.seq (.reg
  [MM 19 7, MM 4 19]) .ret) .skip))))) (.reg [OA 20 (.bin .add (TT 10) (II 1)), MM 10 20]))))))) (.seq (.reg [OA 4 (.mv (II 0))]) .ret))⟩
theorem ok_works_each_api_Arm : compF eff Tryz.prog Tryz.f59 = some ir_works_each_api_Arm := by kernel_rfl
theorem fn_works_each_api_Arm : Tryz.prog.funcs[59]? = some Tryz.f59 := Tryz.func59
def ir_works_each_api_Vec : IFun := ⟨21, [.tmp 4], .seq (.reg [OA 4 (.mv (II 0))]) (.seq (.seq (.reg [MM 8 0, OA 9 (.len false (TT 8)), OA 10 (.mv (II 0))]) (.block 0 (.loop (.seq (.reg [OA 11 (.bin .lss (TT 10) (TT 9))]) (.seq (.cond (TT 11) .skip (.exit 0)) (.seq
  (.block 1 (.seq (.reg [OA 12 (.iaddr 1 (TT 8) (TT 10)), VV 13 12, MM 6 13]) (.seq (.reg [MM 14 1, MM 15 6, OA 16 (.callv (TT 14) [TT 15]), MM 7 16]) (.seq (.reg [MM 17 7, OA 18 (.bin .neq (TT 17) (II 0))]) (.cond (TT 18) (.seq
  (.reg [MM 19 7, MM 4 19]) .ret) .skip))))) (.reg [OA 20 (.bin .add (TT 10) (II 1)), MM 10 20]))))))) (.seq (.reg [OA 4 (.mv (II 0))]) .ret))⟩
theorem ok_works_each_api_Vec : compF eff Tryz.prog Tryz.f60 = some ir_works_each_api_Vec := by kernel_rfl
theorem fn_works_each_api_Vec : Tryz.prog.funcs[60]? = some Tryz.f60 := Tryz.func60
def ir_works_shape : IFun := ⟨12, [.tmp 2], .seq (.reg [OA 2 (.mv (II 0))]) (.seq (.seq (.reg [MM 4 0, OA 5 (.call 153 [TT 4]), MM 3 5]) (.seq (.reg [MM 6 3, OA 7 (.bin .neq (TT 6) (II 0))]) (.cond (TT 7) (.seq (.reg [MM 8 3, MM 2 8]) .ret) .skip))) (.seq
  (.seq (.reg [MM 9 0, OA 10 (.call 104 [TT 9]), OA 11 (.un .not (TT 10))]) (.cond (TT 11) (.seq (.reg [OA 2 (.mv (II 1))]) .ret) .skip)) (.seq (.reg [OA 2 (.mv (II 0))]) .ret)))⟩
theorem ok_works_shape : compF eff Tryz.prog Tryz.f61 = some ir_works_shape := by kernel_rfl
theorem fn_works_shape : Tryz.prog.funcs[61]? = some Tryz.f61 := Tryz.func61
def ir_works_each_api_Part : IFun := ⟨21, [.tmp 4], .seq (.reg [OA 4 (.mv (II 0))]) (.seq (.seq (.reg [MM 8 0, OA 9 (.len false (TT 8)), OA 10 (.mv (II 0))]) (.block 0 (.loop (.seq (.reg [OA 11 (.bin .lss (TT 10) (TT 9))]) (.seq (.cond (TT 11) .skip (.exit 0)) (.seq
  (.block 1 (.seq (.reg [OA 12 (.iaddr 12 (TT 8) (TT 10)), LL 13 12 12, OA 6 (.alloc 102 [.string ⟨#[]⟩, .slice none 0 0, .bool false, .string ⟨#[]⟩, .string ⟨#[]⟩, .bool false, .string ⟨#[]⟩, .string ⟨#[]⟩, .bool false, .bool
  false, .string ⟨#[]⟩, .string ⟨#[]⟩]), OB (.store 12 (TT 6) (TT 13))]) (.seq (.reg [MM 14 1, LL 15 12 6, OA 16 (.callv (TT 14) [TT 15]), MM 7 16]) (.seq (.reg [MM 17 7, OA 18 (.bin .neq (TT 17) (II 0))]) (.cond (TT 18) (.seq
  (.reg [MM 19 7, MM 4 19]) .ret) .skip))))) (.reg [OA 20 (.bin .add (TT 10) (II 1)), MM 10 20]))))))) (.seq (.reg [OA 4 (.mv (II 0))]) .ret))⟩
theorem ok_works_each_api_Part : compF eff Tryz.prog Tryz.f62 = some ir_works_each_api_Part := by kernel_rfl
theorem fn_works_each_api_Part : Tryz.prog.funcs[62]? = some Tryz.f62 := Tryz.func62
def ir_works_each_api_Slot : IFun := ⟨21, [.tmp 4], .seq (.reg [OA 4 (.mv (II 0))]) (.seq (.seq (.reg [MM 8 0, OA 9 (.len false (TT 8)), OA 10 (.mv (II 0))]) (.block 0 (.loop (.seq (.reg [OA 11 (.bin .lss (TT 10) (TT 9))]) (.seq (.cond (TT 11) .skip (.exit 0)) (.seq
  (.block 1 (.seq (.reg [OA 12 (.iaddr 14 (TT 8) (TT 10)), LL 13 14 12, OA 6 (.alloc 77 [.string ⟨#[]⟩, .bool false, .string ⟨#[]⟩, .string ⟨#[]⟩, .bool false, .string ⟨#[]⟩, .string ⟨#[]⟩, .bool false, .bool false, .string ⟨#[]⟩,
  .string ⟨#[]⟩, .bool false, .string ⟨#[]⟩, .string ⟨#[]⟩]), OB (.store 14 (TT 6) (TT 13))]) (.seq (.reg [MM 14 1, LL 15 14 6, OA 16 (.callv (TT 14) [TT 15]), MM 7 16]) (.seq (.reg [MM 17 7, OA 18 (.bin .neq (TT 17) (II 0))])
  (.cond (TT 18) (.seq (.reg [MM 19 7, MM 4 19]) .ret) .skip))))) (.reg [OA 20 (.bin .add (TT 10) (II 1)), MM 10 20]))))))) (.seq (.reg [OA 4 (.mv (II 0))]) .ret))⟩
theorem ok_works_each_api_Slot : compF eff Tryz.prog Tryz.f64 = some ir_works_each_api_Slot := by kernel_rfl
theorem fn_works_each_api_Slot : Tryz.prog.funcs[64]? = some Tryz.f64 := Tryz.func64
def ir_works_each_api_Gate : IFun := ⟨21, [.tmp 4], .seq (.reg [OA 4 (.mv (II 0))]) (.seq (.seq (.reg [MM 8 0, OA 9 (.len false (TT 8)), OA 10 (.mv (II 0))]) (.block 0 (.loop (.seq (.reg [OA 11 (.bin .lss (TT 10) (TT 9))]) (.seq (.cond (TT 11) .skip (.exit 0)) (.seq
  (.block 1 (.seq (.reg [OA 12 (.iaddr 13 (TT 8) (TT 10)), LL 13 13 12, OA 6 (.alloc 61 [.string ⟨#[]⟩, .bool false, .string ⟨#[]⟩, .string ⟨#[]⟩, .bool false, .string ⟨#[]⟩, .string ⟨#[]⟩, .bool false, .string ⟨#[]⟩, .string
  ⟨#[]⟩, .bool false, .string ⟨#[]⟩, .string ⟨#[]⟩]), OB (.store 13 (TT 6) (TT 13))]) (.seq (.reg [MM 14 1, LL 15 13 6, OA 16 (.callv (TT 14) [TT 15]), MM 7 16]) (.seq (.reg [MM 17 7, OA 18 (.bin .neq (TT 17) (II 0))]) (.cond (TT
  18) (.seq (.reg [MM 19 7, MM 4 19]) .ret) .skip))))) (.reg [OA 20 (.bin .add (TT 10) (II 1)), MM 10 20]))))))) (.seq (.reg [OA 4 (.mv (II 0))]) .ret))⟩
theorem ok_works_each_api_Gate : compF eff Tryz.prog Tryz.f66 = some ir_works_each_api_Gate := by kernel_rfl
theorem fn_works_each_api_Gate : Tryz.prog.funcs[66]? = some Tryz.f66 := Tryz.func66
def ir_works_small : IFun := ⟨6, [.tmp 2], .seq (.reg [OA 2 (.mv (.const (.bool false)))]) (.seq (.reg [MM 3 0, OA 4 (.call 74 [TT 3, .func 184]), OA 5 (.un .not (TT 4)), MM 2 5]) .ret)⟩
theorem ok_works_small : compF eff Tryz.prog Tryz.f104 = some ir_works_small := by kernel_rfl
theorem fn_works_small : Tryz.prog.funcs[104]? = some Tryz.f104 := Tryz.func104
def ir_works_small_1 : IFun := ⟨25, [.tmp 2], .seq (.reg [OA 1 (.box 44 (TT 0)), OA 2 (.mv (.const (.bool false)))]) (.seq (.reg [FF 3 0 1, LL 4 3 3, OA 5 (.call 68 [TT 4]), OA 6 (.un .not (TT 5)), MM 7 6, FG 8 3 1 7 false, LG 9 3 8 7 false, OC 10 (.call 68 [TT
  9]) 7 false, OC 11 (.un .not (TT 10)) 7 false, OA 12 (.pick (TT 7) (.const (.bool true)) (TT 11)), MM 13 12, FG 14 0 1 13 false, LG 15 3 14 13 false, OC 16 (.call 69 [TT 15]) 13 false, OC 17 (.un .not (TT 16)) 13 false, OA 18
  (.pick (TT 13) (.const (.bool true)) (TT 17)), MM 19 18, FG 20 3 1 19 false, LG 21 3 20 19 false, OC 22 (.call 69 [TT 21]) 19 false, OC 23 (.un .not (TT 22)) 19 false, OA 24 (.pick (TT 19) (.const (.bool true)) (TT 23)), MM 2
  24]) .ret)⟩
theorem ok_works_small_1 : compF eff Tryz.prog Tryz.f184 = some ir_works_small_1 := by kernel_rfl
theorem fn_works_small_1 : Tryz.prog.funcs[184]? = some Tryz.f184 := Tryz.func184
def ir_works_named_add : IFun := ⟨13, [.tmp 4], .seq (.reg [OA 4 (.mv (II 0))]) (.seq (.seq (.reg [MM 5 1, OA 6 (.call 29 [TT 5]), OA 7 (.un .not (TT 6))]) (.cond (TT 7) (.seq (.reg [OA 4 (.mv (II 3))]) .ret) .skip)) (.seq (.seq (.reg [MM 8 0, MM 9 1, OA 10 (.lkp
  true (.bool false) false (TT 8) (TT 9))]) (.cond (TT 10) (.seq (.reg [OA 4 (.mv (II 5))]) .ret) .skip)) (.seq (.reg [MM 11 0, MM 12 1, OB (.mupd true (TT 11) (TT 12) (.const (.bool true)))]) (.seq (.reg [OA 4 (.mv (II 0))])
  .ret))))⟩
theorem ok_works_named_add : compF eff Tryz.prog Tryz.f58 = some ir_works_named_add := by kernel_rfl
theorem fn_works_named_add : Tryz.prog.funcs[58]? = some Tryz.f58 := Tryz.func58
def ir_works_named_part : IFun := ⟨24, [.tmp 4], .seq (.reg [OA 3 (.box 102 (TT 1)), OA 4 (.mv (II 0))]) (.seq (.seq (.reg [MM 7 0, FF 8 0 3, VV 9 8, OA 10 (.call 58 [TT 7, TT 9]), MM 5 10]) (.seq (.reg [MM 11 5, OA 12 (.bin .neq (TT 11) (II 0))]) (.cond (TT 12)
  (.seq (.reg [MM 13 5, MM 4 13]) .ret) .skip))) (.seq (.seq (.reg [FF 14 1 3, VV 15 14, OA 16 (.call 61 [TT 15]), MM 6 16]) (.seq (.reg [MM 17 6, OA 18 (.bin .neq (TT 17) (II 0))]) (.cond (TT 18) (.seq (.reg [MM 19 6, MM 4 19])
  .ret) .skip))) (.seq (.seq (.reg [FF 20 2 3, LL 21 10 20, OA 22 (.call 31 [TT 21]), OA 23 (.un .not (TT 22))]) (.cond (TT 23) (.seq (.reg [OA 4 (.mv (II 1))]) .ret) .skip)) (.seq (.reg [OA 4 (.mv (II 0))]) .ret))))⟩
theorem ok_works_named_part : compF eff Tryz.prog Tryz.f63 = some ir_works_named_part := by kernel_rfl
theorem fn_works_named_part : Tryz.prog.funcs[63]? = some Tryz.f63 := Tryz.func63
def ir_works_named_slot : IFun := ⟨35, [.tmp 4], .seq (.reg [OA 3 (.box 77 (TT 1)), OA 4 (.mv (II 0))]) (.seq (.seq (.reg [MM 6 0, FF 7 0 3, VV 8 7, OA 9 (.call 58 [TT 6, TT 8]), MM 5 9]) (.seq (.reg [MM 10 5, OA 11 (.bin .neq (TT 10) (II 0))]) (.cond (TT 11)
  (.seq (.reg [MM 12 5, MM 4 12]) .ret) .skip))) (.seq (.seq (.reg [FF 13 1 3, LL 14 10 13, OA 15 (.call 31 [TT 14]), OA 16 (.un .not (TT 15)), MM 17 16, FG 18 11 3 17 false, LG 19 3 18 17 false, OC 20 (.call 68 [TT 19]) 17 false,
  OC 21 (.un .not (TT 20)) 17 false, OA 22 (.pick (TT 17) (.const (.bool true)) (TT 21)), MM 23 22, FG 24 11 3 23 false, LG 25 3 24 23 false, OC 26 (.call 69 [TT 25]) 23 false, OC 27 (.un .not (TT 26)) 23 false, OA 28 (.pick (TT
  23) (.const (.bool true)) (TT 27)), MM 29 28, FG 30 11 3 29 false, LG 31 3 30 29 false, OC 32 (.call 23 [TT 31]) 29 false, OC 33 (.bin .leq (TT 32) (II 0)) 29 false, OA 34 (.pick (TT 29) (.const (.bool true)) (TT 33))]) (.cond
  (TT 34) (.seq (.reg [OA 4 (.mv (II 1))]) .ret) .skip)) (.seq (.reg [OA 4 (.mv (II 0))]) .ret)))⟩
theorem ok_works_named_slot : compF eff Tryz.prog Tryz.f65 = some ir_works_named_slot := by kernel_rfl
theorem fn_works_named_slot : Tryz.prog.funcs[65]? = some Tryz.f65 := Tryz.func65
def ir_works_named_gate : IFun := ⟨46, [.tmp 4], .seq (.reg [OA 3 (.box 61 (TT 1)), OA 4 (.mv (II 0))]) (.seq (.seq (.reg [MM 6 0, FF 7 0 3, VV 8 7, OA 9 (.call 58 [TT 6, TT 8]), MM 5 9]) (.seq (.reg [MM 10 5, OA 11 (.bin .neq (TT 10) (II 0))]) (.cond (TT 11)
  (.seq (.reg [MM 12 5, MM 4 12]) .ret) .skip))) (.seq (.seq (.reg [FF 13 1 3, FF 14 0 13, LL 15 6 14, FF 16 1 3, FF 17 6 16, LL 18 6 17, OA 19 (.bsl 44 6 2 [.bool false, .string ⟨#[]⟩, .string ⟨#[]⟩, .bool false, .string ⟨#[]⟩,
  .string ⟨#[]⟩] [(0, TT 15), (1, TT 18)]), OA 20 (.call 104 [TT 19]), OA 21 (.un .not (TT 20)), MM 22 21, FG 23 1 3 22 false, FG 24 0 23 22 false, FG 25 0 24 22 false, LG 26 3 25 22 false, FG 27 1 3 22 false, FG 28 6 27 22 false,
  FG 29 0 28 22 false, LG 30 3 29 22 false, OC 31 (.call 82 [TT 26, TT 30]) 22 false, OC 32 (.bin .gtr (TT 31) (II 0)) 22 false, OA 33 (.pick (TT 22) (.const (.bool true)) (TT 32)), MM 34 33, FG 35 1 3 34 false, FG 36 0 35 34
  false, FG 37 3 36 34 false, LG 38 3 37 34 false, FG 39 1 3 34 false, FG 40 6 39 34 false, FG 41 3 40 34 false, LG 42 3 41 34 false, OC 43 (.call 82 [TT 38, TT 42]) 34 false, OC 44 (.bin .gtr (TT 43) (II 0)) 34 false, OA 45
  (.pick (TT 34) (.const (.bool true)) (TT 44))]) (.cond (TT 45) (.seq (.reg [OA 4 (.mv (II 1))]) .ret) .skip)) (.seq (.reg [OA 4 (.mv (II 0))]) .ret)))⟩
theorem ok_works_named_gate : compF eff Tryz.prog Tryz.f67 = some ir_works_named_gate := by kernel_rfl
theorem fn_works_named_gate : Tryz.prog.funcs[67]? = some Tryz.f67 := Tryz.func67
def ir_world_Check : IFun := ⟨97, [.tmp 4], .seq (.reg [OA 2 (.box 31 (TT 0)), OA 3 (.box 37 (TT 1)), OA 4 (.mv (II 0))]) (.seq (.seq (.reg [LL 10 8 2, OA 11 (.call 11 [TT 10]), MM 5 11]) (.seq (.reg [MM 12 5, OA 13 (.bin .neq (TT 12) (II 0))]) (.cond (TT 13)
  (.seq (.reg [MM 14 5, MM 4 14]) .ret) .skip))) (.seq (.seq (.reg [FF 15 3 3, VV 16 15, OA 17 (.len false (TT 16)), OA 18 (.bin .gtr (TT 17) (II 4))]) (.cond (TT 18) (.seq (.reg [OA 4 (.mv (II 2))]) .ret) .skip)) (.seq (.seq
  (.reg [FF 19 0 3, VV 20 19, OA 21 (.bin .lss (TT 20) (II 0)), MM 22 21, FG 23 0 3 22 false, VG 24 23 22 false, OC 25 (.bin .gtr (TT 24) (II 2000)) 22 false, OA 26 (.pick (TT 22) (.const (.bool true)) (TT 25)), MM 27 26, FG 28 1
  3 27 false, VG 29 28 27 false, OC 30 (.len false (TT 29)) 27 false, FG 31 0 2 27 false, VG 32 31 27 false, OC 33 (.len false (TT 32)) 27 false, OC 34 (.bin .neq (TT 30) (TT 33)) 27 false, OA 35 (.pick (TT 27) (.const (.bool
  true)) (TT 34)), MM 36 35, FG 37 2 3 36 false, VG 38 37 36 false, OC 39 (.len false (TT 38)) 36 false, FG 40 2 2 36 false, VG 41 40 36 false, OC 42 (.len false (TT 41)) 36 false, OC 43 (.bin .neq (TT 39) (TT 42)) 36 false, OA 44
  (.pick (TT 36) (.const (.bool true)) (TT 43)), MM 45 44, FG 46 4 3 45 false, VG 47 46 45 false, OC 48 (.len false (TT 47)) 45 false, FG 49 4 2 45 false, VG 50 49 45 false, OC 51 (.len false (TT 50)) 45 false, OC 52 (.bin .neq
  (TT 48) (TT 51)) 45 false, OA 53 (.pick (TT 45) (.const (.bool true)) (TT 52))]) (.cond (TT 53) (.seq (.reg [OA 4 (.mv (II 1))]) .ret) .skip)) (.seq (.reg [OA 54 (.mkmap false), MM 6 54]) (.seq (.seq (.reg [FF 55 1 3, VV 56 55,
  OA 57 (.len false (TT 56)), OA 58 (.mv (II 0))]) (.block 0 (.loop (.seq (.reg [OA 59 (.bin .lss (TT 58) (TT 57))]) (.seq (.cond (TT 59) .skip (.exit 0)) (.seq (.block 1 (.seq (.reg [MM 60 58, OA 61 (.iaddr 4 (TT 56) (TT 58)), LL
  62 4 61, OA 8 (.alloc 85 [.slice none 0 0, .slice none 0 0, .bool false, .int .i64 0]), MM 7 60, OB (.store 4 (TT 8) (TT 62))]) (.seq (.seq (.regd [.q, .q, .q, .q, .q, .q, .q, .q, .q, .q, .q] [FF 63 0 2, VV 64 63, MM 65 7, OA 66
  (.iaddr 12 (TT 64) (TT 65)), LL 67 12 66, LL 68 4 8, FF 69 2 2, VV 70 69, OA 71 (.len false (TT 70)), OA 72 (.call 70 [TT 67, TT 68, TT 71]), MM 9 72]) (.seq (.reg [MM 73 9, OA 74 (.bin .neq (TT 73) (II 0))]) (.cond (TT 74)
  (.seq (.reg [MM 75 9, MM 4 75]) .ret) .skip))) (.seq (.seq (.reg [FF 76 3 8, VV 77 76, OA 78 (.bin .geq (TT 77) (II 0)), MM 79 78, MG 80 6 79 true, FG 81 3 8 79 true, VG 82 81 79 true, OC 83 (.lkp false (.bool false) false (TT
  80) (TT 82)) 79 true, OA 84 (.pick (TT 79) (TT 83) (.const (.bool false)))]) (.cond (TT 84) (.seq (.reg [OA 4 (.mv (II 10))]) .ret) .skip)) (.reg [MM 85 6, FF 86 3 8, VV 87 86, OB (.mupd false (TT 85) (TT 87) (.const (.bool
  true)))]))))) (.reg [OA 88 (.bin .add (TT 58) (II 1)), MM 58 88]))))))) (.seq (.seq (.reg [FF 89 2 3, VV 90 89, OA 91 (.call 71 [TT 90, .func 72]), MM 92 91, FG 93 3 3 92 false, VG 94 93 92 false, OC 95 (.call 74 [TT 94, .func
  75]) 92 false, OA 96 (.pick (TT 92) (.const (.bool true)) (TT 95))]) (.cond (TT 96) (.seq (.reg [OA 4 (.mv (II 3))]) .ret) .skip)) (.seq (.reg [OA 4 (.mv (II 0))]) .ret)))))))⟩
theorem ok_world_Check : compF eff Tryz.prog Tryz.f12 = some ir_world_Check := by kernel_rfl
theorem fn_world_Check : Tryz.prog.funcs[12]? = some Tryz.f12 := Tryz.func12
def ir_world_First : IFun := ⟨91, [.cell 2 true 5, .tmp 3], .seq (.reg [OA 1 (.box 31 (TT 0)), OA 2 (.alloc 37 [.int .i64 0, .slice none 0 0, .slice none 0 0, .slice none 0 0, .slice none 0 0]), OA 3 (.mv (II 0))]) (.seq (.seq (.reg [LL 13 8 1, OA 14 (.call
  11 [TT 13]), MM 4 14]) (.seq (.reg [MM 15 4, OA 16 (.bin .neq (TT 15) (II 0))]) (.cond (TT 16) (.seq (.reg [OA 17 (.build [.int .i64 0, .slice none 0 0, .slice none 0 0, .slice none 0 0, .slice none 0 0] []), MM 18 4, OB (.store
  5 (TT 2) (TT 17)), MM 3 18]) .ret) .skip))) (.seq (.reg [OA 5 (.alloc 37 [.int .i64 0, .slice none 0 0, .slice none 0 0, .slice none 0 0, .slice none 0 0])]) (.seq (.seq (.reg [FF 19 0 1, VV 20 19, OA 21 (.len false (TT 20)), OA
  22 (.mv (II 0))]) (.block 0 (.loop (.seq (.reg [OA 23 (.bin .lss (TT 22) (TT 21))]) (.seq (.cond (TT 23) .skip (.exit 0)) (.seq (.block 1 (.seq (.reg [OA 24 (.iaddr 12 (TT 20) (TT 22)), LL 25 12 24, OA 7 (.alloc 51 [.string
  ⟨#[]⟩, .bool false, .string ⟨#[]⟩, .string ⟨#[]⟩, .bool false, .string ⟨#[]⟩, .string ⟨#[]⟩, .bool false, .bool false, .string ⟨#[]⟩, .string ⟨#[]⟩, .slice none 0 0]), OB (.store 12 (TT 7) (TT 25))]) (.seq (.reg [OA 26 (.build
  [.slice none 0 0, .slice none 0 0, .bool false, .int .i64 0] [(3, (1, II (-1)))]), OA 8 (.alloc 85 [.slice none 0 0, .slice none 0 0, .bool false, .int .i64 0]), OB (.store 4 (TT 8) (TT 26))]) (.seq (.seq (.reg [FF 27 11 7, VV
  28 27, OA 29 (.len false (TT 28)), OA 30 (.mv (II 0))]) (.block 2 (.loop (.seq (.reg [OA 31 (.bin .lss (TT 30) (TT 29))]) (.seq (.cond (TT 31) .skip (.exit 2)) (.seq (.block 3 (.seq (.reg [OA 32 (.iaddr 16 (TT 28) (TT 30)), LL
  33 16 32, OA 10 (.alloc 53 [.bool false, .string ⟨#[]⟩, .string ⟨#[]⟩, .bool false, .string ⟨#[]⟩, .string ⟨#[]⟩, .bool false, .string ⟨#[]⟩, .string ⟨#[]⟩, .bool false, .string ⟨#[]⟩, .string ⟨#[]⟩, .bool false, .string ⟨#[]⟩,
  .string ⟨#[]⟩, .slice none 0 0]), OB (.store 16 (TT 10) (TT 33))]) (.seq (.regd [.q, .q, .q, .q, .q, .q, .q, .q, .q, .q, .e none true, .q, .e none false] [FF 34 0 8, VV 35 34, FF 36 3 10, LL 37 3 36, FF 38 6 10, LL 39 3 38, OA
  40 (.call 85 [II 0]), OA 41 (.call 143 [TT 39, TT 40]), OA 42 (.call 88 [TT 37, TT 41]), OA 43 (.bsl 29 3 1 [.bool false, .string ⟨#[]⟩, .string ⟨#[]⟩] [(0, TT 42)]), OA 44 (.app 29 3 40 (TT 35) (TT 43)), FF 45 0 8, OB (.store 1
  (TT 45) (TT 44))]) (.regd [.q, .q, .q, .q, .e none true, .q, .e none false] [FF 46 1 8, VV 47 46, OA 48 (.call 85 [II 0]), OA 49 (.bsl 29 3 1 [.bool false, .string ⟨#[]⟩, .string ⟨#[]⟩] [(0, TT 48)]), OA 50 (.app 29 3 40 (TT 47)
  (TT 49)), FF 51 1 8, OB (.store 1 (TT 51) (TT 50))])))) (.reg [OA 52 (.bin .add (TT 30) (II 1)), MM 30 52]))))))) (.reg [FF 53 1 5, VV 54 53, LL 55 4 8, OA 56 (.bsl 85 4 1 [.slice none 0 0, .slice none 0 0, .bool false, .int
  .i64 0] [(0, TT 55)]), OA 57 (.app 85 4 64 (TT 54) (TT 56)), FF 58 1 5, OB (.store 1 (TT 58) (TT 57))]))))) (.reg [OA 59 (.bin .add (TT 22) (II 1)), MM 22 59]))))))) (.seq (.seq (.reg [FF 60 2 1, VV 61 60, OA 62 (.len false (TT
  61)), OA 63 (.mv (II 0))]) (.block 4 (.loop (.seq (.reg [OA 64 (.bin .lss (TT 63) (TT 62))]) (.seq (.cond (TT 64) .skip (.exit 4)) (.seq (.block 5 (.seq (.reg [MM 65 63, MM 11 65]) (.seq (.reg [OA 66 (.call 144 []), OA 12
  (.alloc 48 [.bool false, .string ⟨#[]⟩, .string ⟨#[]⟩, .bool false, .string ⟨#[]⟩, .string ⟨#[]⟩, .bool false, .bool false, .string ⟨#[]⟩, .string ⟨#[]⟩]), OB (.store 10 (TT 12) (TT 66))]) (.seq (.seq (.reg [MM 67 11, FF 68 3 1,
  VV 69 68, OA 70 (.len false (TT 69)), OA 71 (.bin .lss (TT 67) (TT 70))]) (.cond (TT 71) (.reg [FF 72 3 1, VV 73 72, MM 74 11, OA 75 (.iaddr 14 (TT 73) (TT 74)), FF 76 1 75, LL 77 10 76, OB (.store 10 (TT 12) (TT 77))]) .skip))
  (.reg [FF 78 2 5, VV 79 78, LL 80 10 12, OA 81 (.bsl 48 10 1 [.bool false, .string ⟨#[]⟩, .string ⟨#[]⟩, .bool false, .string ⟨#[]⟩, .string ⟨#[]⟩, .bool false, .bool false, .string ⟨#[]⟩, .string ⟨#[]⟩] [(0, TT 80)]), OA 82
  (.app 48 10 128 (TT 79) (TT 81)), FF 83 2 5, OB (.store 1 (TT 83) (TT 82))]))))) (.reg [OA 84 (.bin .add (TT 63) (II 1)), MM 63 84]))))))) (.seq (.reg [FF 85 4 1, VV 86 85, OA 87 (.len false (TT 86)), OA 88 (.mksl 4 1 [.bool
  false] (TT 87) (TT 87)), FF 89 4 5, OB (.store 1 (TT 89) (TT 88))]) (.seq (.reg [LL 90 5 5, OB (.store 5 (TT 2) (TT 90)), OA 3 (.mv (II 0))]) .ret))))))⟩
theorem ok_world_First : compF eff Tryz.prog Tryz.f50 = some ir_world_First := by kernel_rfl
theorem fn_world_First : Tryz.prog.funcs[50]? = some Tryz.f50 := Tryz.func50
def ir_world_one : IFun := ⟨64, [.tmp 6], .seq (.reg [OA 3 (.box 51 (TT 0)), OA 4 (.box 85 (TT 1)), OA 6 (.mv (II 0))]) (.seq (.seq (.reg [FF 10 0 4, VV 11 10, OA 12 (.call 76 [TT 11]), OA 13 (.un .not (TT 12)), MM 14 13, FG 15 1 4 14 false, VG 16 15 14
  false, OC 17 (.call 76 [TT 16]) 14 false, OC 18 (.un .not (TT 17)) 14 false, OA 19 (.pick (TT 14) (.const (.bool true)) (TT 18))]) (.cond (TT 19) (.seq (.reg [OA 6 (.mv (II 3))]) .ret) .skip)) (.seq (.seq (.reg [LL 20 12 3, FF
  21 0 4, VV 22 21, OA 23 (.call 140 [TT 20, TT 22]), MM 7 23]) (.seq (.reg [MM 24 7, OA 25 (.bin .neq (TT 24) (II 0))]) (.cond (TT 25) (.seq (.reg [MM 26 7, MM 6 26]) .ret) .skip))) (.seq (.seq (.reg [FF 27 1 4, VV 28 27, OA 29
  (.len false (TT 28)), FF 30 11 3, VV 31 30, OA 32 (.len false (TT 31)), OA 33 (.bin .neq (TT 29) (TT 32)), MM 34 33, FG 35 3 4 34 false, VG 36 35 34 false, OC 37 (.bin .lss (TT 36) (II (-1))) 34 false, OA 38 (.pick (TT 34)
  (.const (.bool true)) (TT 37)), MM 39 38, FG 40 3 4 39 false, VG 41 40 39 false, MG 42 2 39 false, OC 43 (.bin .geq (TT 41) (TT 42)) 39 false, OA 44 (.pick (TT 39) (.const (.bool true)) (TT 43))]) (.cond (TT 44) (.seq (.reg [OA
  6 (.mv (II 1))]) .ret) .skip)) (.seq (.seq (.reg [FF 45 11 3, VV 46 45, OA 47 (.len false (TT 46)), OA 48 (.mv (II 0))]) (.block 0 (.loop (.seq (.reg [OA 49 (.bin .lss (TT 48) (TT 47))]) (.seq (.cond (TT 49) .skip (.exit 0))
  (.seq (.block 1 (.seq (.reg [MM 50 48, OA 51 (.iaddr 16 (TT 46) (TT 48)), LL 52 16 51, OA 9 (.alloc 53 [.bool false, .string ⟨#[]⟩, .string ⟨#[]⟩, .bool false, .string ⟨#[]⟩, .string ⟨#[]⟩, .bool false, .string ⟨#[]⟩, .string
  ⟨#[]⟩, .bool false, .string ⟨#[]⟩, .string ⟨#[]⟩, .bool false, .string ⟨#[]⟩, .string ⟨#[]⟩, .slice none 0 0]), MM 8 50, OB (.store 16 (TT 9) (TT 52))]) (.seq (.regd [.q, .q, .q, .q, .q, .q, .q, .q, .q, .q] [FF 53 1 4, VV 54 53,
  MM 55 8, OA 56 (.iaddr 3 (TT 54) (TT 55)), LL 57 3 56, OA 58 (.call 89 [TT 57]), FF 59 9 9, LL 60 3 59, OA 61 (.call 82 [TT 58, TT 60]), OA 62 (.bin .gtr (TT 61) (II 0))]) (.cond (TT 62) (.seq (.reg [OA 6 (.mv (II 1))]) .ret)
  .skip)))) (.reg [OA 63 (.bin .add (TT 48) (II 1)), MM 48 63]))))))) (.seq (.reg [OA 6 (.mv (II 0))]) .ret)))))⟩
theorem ok_world_one : compF eff Tryz.prog Tryz.f70 = some ir_world_one := by kernel_rfl
theorem fn_world_one : Tryz.prog.funcs[70]? = some Tryz.f70 := Tryz.func70
def ir_world_Check_1 : IFun := ⟨6, [.tmp 2], .seq (.reg [OA 1 (.box 48 (TT 0)), OA 2 (.mv (.const (.bool false)))]) (.seq (.reg [LL 3 10 1, OA 4 (.call 73 [TT 3]), OA 5 (.un .not (TT 4)), MM 2 5]) .ret)⟩
theorem ok_world_Check_1 : compF eff Tryz.prog Tryz.f72 = some ir_world_Check_1 := by kernel_rfl
theorem fn_world_Check_1 : Tryz.prog.funcs[72]? = some Tryz.f72 := Tryz.func72
def ir_world_goodFrame : IFun := ⟨27, [.tmp 2], .seq (.reg [OA 1 (.box 48 (TT 0)), OA 2 (.mv (.const (.bool false)))]) (.seq (.reg [FF 3 0 1, FF 4 0 3, LL 5 3 4, FF 6 0 1, FF 7 3 6, LL 8 3 7, FF 9 6 1, FF 10 1 9, LL 11 3 10, OA 12 (.bsl 29 3 3 [.bool false,
  .string ⟨#[]⟩, .string ⟨#[]⟩] [(0, TT 5), (1, TT 8), (2, TT 11)]), OA 13 (.call 76 [TT 12]), MM 14 13, FG 15 6 1 14 true, FG 16 0 15 14 true, VG 17 16 14 true, OC 18 (.un .not (TT 17)) 14 true, MG 19 18 14 true, FG 20 6 1 19
  false, FG 21 1 20 19 false, LG 22 3 21 19 false, OC 23 (.call 23 [TT 22]) 19 false, OC 24 (.bin .eql (TT 23) (II 0)) 19 false, OC 25 (.pick (TT 19) (.const (.bool true)) (TT 24)) 14 true, OA 26 (.pick (TT 14) (TT 25) (.const
  (.bool false))), MM 2 26]) .ret)⟩
theorem ok_world_goodFrame : compF eff Tryz.prog Tryz.f73 = some ir_world_goodFrame := by kernel_rfl
theorem fn_world_goodFrame : Tryz.prog.funcs[73]? = some Tryz.f73 := Tryz.func73
def ir_world_Check_2 : IFun := ⟨10, [.tmp 2], .seq (.reg [OA 1 (.box 44 (TT 0)), OA 2 (.mv (.const (.bool false)))]) (.seq (.reg [FF 3 0 1, LL 4 3 3, FF 5 3 1, LL 6 3 5, OA 7 (.bsl 29 3 2 [.bool false, .string ⟨#[]⟩, .string ⟨#[]⟩] [(0, TT 4), (1, TT 6)]), OA 8
  (.call 76 [TT 7]), OA 9 (.un .not (TT 8)), MM 2 9]) .ret)⟩
theorem ok_world_Check_2 : compF eff Tryz.prog Tryz.f75 = some ir_world_Check_2 := by kernel_rfl
theorem fn_world_Check_2 : Tryz.prog.funcs[75]? = some Tryz.f75 := Tryz.func75
def ir_world_good : IFun := ⟨6, [.tmp 2], .seq (.reg [OA 2 (.mv (.const (.bool false)))]) (.seq (.reg [MM 3 0, OA 4 (.call 48 [TT 3, .func 159]), OA 5 (.un .not (TT 4)), MM 2 5]) .ret)⟩
theorem ok_world_good : compF eff Tryz.prog Tryz.f76 = some ir_world_good := by kernel_rfl
theorem fn_world_good : Tryz.prog.funcs[76]? = some Tryz.f76 := Tryz.func76
def ir_world_good_1 : IFun := ⟨6, [.tmp 2], .seq (.reg [OA 1 (.box 29 (TT 0)), OA 2 (.mv (.const (.bool false)))]) (.seq (.reg [LL 3 3 1, OA 4 (.call 68 [TT 3]), OA 5 (.un .not (TT 4)), MM 2 5]) .ret)⟩
theorem ok_world_good_1 : compF eff Tryz.prog Tryz.f159 = some ir_world_good_1 := by kernel_rfl
theorem fn_world_good_1 : Tryz.prog.funcs[159]? = some Tryz.f159 := Tryz.func159
def ir_move_Open : IFun := ⟨37, [.cell 8 true 5, .tmp 9], .seq (.reg [OA 4 (.box 31 (TT 0)), OA 5 (.box 37 (TT 1)), OA 8 (.alloc 37 [.int .i64 0, .slice none 0 0, .slice none 0 0, .slice none 0 0, .slice none 0 0]), OA 9 (.mv (II 0))]) (.seq (.seq (.reg [LL
  12 8 4, LL 13 5 5, OA 14 (.call 12 [TT 12, TT 13]), MM 10 14]) (.seq (.reg [MM 15 10, OA 16 (.bin .neq (TT 15) (II 0))]) (.cond (TT 16) (.seq (.reg [OA 17 (.build [.int .i64 0, .slice none 0 0, .slice none 0 0, .slice none 0 0,
  .slice none 0 0] []), MM 18 10, OB (.store 5 (TT 8) (TT 17)), MM 9 18]) .ret) .skip))) (.seq (.seq (.reg [MM 19 2, OA 20 (.bin .lss (TT 19) (II 0)), MM 21 20, MG 22 2 21 false, FG 23 4 4 21 false, VG 24 23 21 false, OC 25 (.len
  false (TT 24)) 21 false, OC 26 (.bin .geq (TT 22) (TT 25)) 21 false, OA 27 (.pick (TT 21) (.const (.bool true)) (TT 26))]) (.cond (TT 27) (.seq (.reg [OA 28 (.build [.int .i64 0, .slice none 0 0, .slice none 0 0, .slice none 0
  0, .slice none 0 0] []), OB (.store 5 (TT 8) (TT 28)), OA 9 (.mv (II 1))]) .ret) .skip)) (.seq (.reg [LL 29 5 5, OA 30 (.call 24 [TT 29]), OA 11 (.alloc 37 [.int .i64 0, .slice none 0 0, .slice none 0 0, .slice none 0 0, .slice
  none 0 0]), OB (.store 5 (TT 11) (TT 30))]) (.seq (.reg [FF 31 4 11, VV 32 31, MM 33 2, MM 34 3, OA 35 (.iaddr 1 (TT 32) (TT 33)), OB (.store 1 (TT 35) (TT 34))]) (.seq (.reg [LL 36 5 11, OB (.store 5 (TT 8) (TT 36)), OA 9 (.mv
  (II 0))]) .ret)))))⟩
theorem ok_move_Open : compF eff Tryz.prog Tryz.f13 = some ir_move_Open := by kernel_rfl
theorem fn_move_Open : Tryz.prog.funcs[13]? = some Tryz.f13 := Tryz.func13
def ir_move_Enter : IFun := ⟨107, [.cell 8 true 5, .tmp 9], .seq (.reg [OA 4 (.box 31 (TT 0)), OA 5 (.box 37 (TT 1)), OA 7 (.box 44 (TT 3)), OA 8 (.alloc 37 [.int .i64 0, .slice none 0 0, .slice none 0 0, .slice none 0 0, .slice none 0 0]), OA 9 (.mv (II
  0))]) (.seq (.seq (.reg [LL 13 8 4, LL 14 5 5, OA 15 (.call 12 [TT 13, TT 14]), MM 10 15]) (.seq (.reg [MM 16 10, OA 17 (.bin .neq (TT 16) (II 0))]) (.cond (TT 17) (.seq (.reg [OA 18 (.build [.int .i64 0, .slice none 0 0, .slice
  none 0 0, .slice none 0 0, .slice none 0 0] []), MM 19 10, OB (.store 5 (TT 8) (TT 18)), MM 9 19]) .ret) .skip))) (.seq (.seq (.reg [MM 20 2, OA 21 (.bin .lss (TT 20) (II 0)), MM 22 21, MG 23 2 22 false, FG 24 4 4 22 false, VG
  25 24 22 false, OC 26 (.len false (TT 25)) 22 false, OC 27 (.bin .geq (TT 23) (TT 26)) 22 false, OA 28 (.pick (TT 22) (.const (.bool true)) (TT 27)), MM 29 28, FG 30 0 7 29 false, LG 31 3 30 29 false, OC 32 (.call 68 [TT 31]) 29
  false, OC 33 (.un .not (TT 32)) 29 false, OA 34 (.pick (TT 29) (.const (.bool true)) (TT 33)), MM 35 34, FG 36 3 7 35 false, LG 37 3 36 35 false, OC 38 (.call 68 [TT 37]) 35 false, OC 39 (.un .not (TT 38)) 35 false, OA 40 (.pick
  (TT 35) (.const (.bool true)) (TT 39))]) (.cond (TT 40) (.seq (.reg [OA 41 (.build [.int .i64 0, .slice none 0 0, .slice none 0 0, .slice none 0 0, .slice none 0 0] []), OB (.store 5 (TT 8) (TT 41)), OA 9 (.mv (II 1))]) .ret)
  .skip)) (.seq (.reg [FF 42 4 4, VV 43 42, MM 44 2, OA 45 (.iaddr 13 (TT 43) (TT 44)), FF 46 1 45, LL 47 12 46, OA 11 (.alloc 59 [.bool false, .string ⟨#[]⟩, .string ⟨#[]⟩, .bool false, .string ⟨#[]⟩, .string ⟨#[]⟩, .bool false,
  .string ⟨#[]⟩, .string ⟨#[]⟩, .bool false, .string ⟨#[]⟩, .string ⟨#[]⟩]), OB (.store 12 (TT 11) (TT 47))]) (.seq (.block 0 (.seq (.reg [FF 49 4 5, VV 50 49, MM 51 2, OA 52 (.iaddr 1 (TT 50) (TT 51)), VV 53 52, OA 54 (.un .not
  (TT 53)), MM 48 54]) (.cond (TT 48) (.seq (.reg [OA 55 (.build [.int .i64 0, .slice none 0 0, .slice none 0 0, .slice none 0 0, .slice none 0 0] []), OB (.store 5 (TT 8) (TT 55)), OA 9 (.mv (II 7))]) .ret) (.seq (.reg [FF 57 0
  7, LL 58 3 57, FF 59 0 11, FF 60 0 59, LL 61 3 60, OA 62 (.call 82 [TT 58, TT 61]), OA 63 (.bin .lss (TT 62) (II 0)), MM 64 63, FG 65 0 7 64 false, LG 66 3 65 64 false, FG 67 6 11 64 false, FG 68 0 67 64 false, LG 69 3 68 64
  false, OC 70 (.call 82 [TT 66, TT 69]) 64 false, OC 71 (.bin .gtr (TT 70) (II 0)) 64 false, OA 72 (.pick (TT 64) (.const (.bool true)) (TT 71)), MM 73 72, FG 74 3 7 73 false, LG 75 3 74 73 false, FG 76 0 11 73 false, FG 77 3 76
  73 false, LG 78 3 77 73 false, OC 79 (.call 82 [TT 75, TT 78]) 73 false, OC 80 (.bin .lss (TT 79) (II 0)) 73 false, OA 81 (.pick (TT 73) (.const (.bool true)) (TT 80)), MM 82 81, FG 83 3 7 82 false, LG 84 3 83 82 false, FG 85 6
  11 82 false, FG 86 3 85 82 false, LG 87 3 86 82 false, OC 88 (.call 82 [TT 84, TT 87]) 82 false, OC 89 (.bin .gtr (TT 88) (II 0)) 82 false, OA 90 (.pick (TT 82) (.const (.bool true)) (TT 89)), MM 56 90]) (.cond (TT 56) (.seq
  (.reg [OA 91 (.build [.int .i64 0, .slice none 0 0, .slice none 0 0, .slice none 0 0, .slice none 0 0] []), OB (.store 5 (TT 8) (TT 91)), OA 9 (.mv (II 17))]) .ret) (.seq (.reg [FF 93 3 5, VV 94 93, OA 95 (.len false (TT 94)),
  OA 96 (.bin .eql (TT 95) (II 4)), MM 92 96]) (.cond (TT 92) (.seq (.reg [OA 97 (.build [.int .i64 0, .slice none 0 0, .slice none 0 0, .slice none 0 0, .slice none 0 0] []), OB (.store 5 (TT 8) (TT 97)), OA 9 (.mv (II 6))])
  .ret) .skip))))))) (.seq (.reg [LL 98 5 5, OA 99 (.call 24 [TT 98]), OA 12 (.alloc 37 [.int .i64 0, .slice none 0 0, .slice none 0 0, .slice none 0 0, .slice none 0 0]), OB (.store 5 (TT 12) (TT 99))]) (.seq (.reg [FF 100 3 12,
  VV 101 100, LL 102 6 7, OA 103 (.bsl 44 6 1 [.bool false, .string ⟨#[]⟩, .string ⟨#[]⟩, .bool false, .string ⟨#[]⟩, .string ⟨#[]⟩] [(0, TT 102)]), OA 104 (.app 44 6 80 (TT 101) (TT 103)), FF 105 3 12, OB (.store 1 (TT 105) (TT
  104))]) (.seq (.reg [LL 106 5 12, OB (.store 5 (TT 8) (TT 106)), OA 9 (.mv (II 0))]) .ret)))))))⟩
theorem ok_move_Enter : compF eff Tryz.prog Tryz.f16 = some ir_move_Enter := by kernel_rfl
theorem fn_move_Enter : Tryz.prog.funcs[16]? = some Tryz.f16 := Tryz.func16
def ir_gantmake_Of : IFun := ⟨34, [.cell 4 true 3], .seq (.reg [OA 4 (.alloc 29 [.bool false, .string ⟨#[]⟩, .string ⟨#[]⟩])]) (.seq (.reg [MM 7 0, MM 8 0, OA 9 (.un .neg (TT 8)), OA 10 (.max (TT 7) (TT 9)), MM 11 1, MM 5 10, MM 6 11]) (.seq (.block 0 (.loop
  (.seq (.seq (.reg [MM 12 6, OA 13 (.bin .gtr (TT 12) (II 0))]) (.cond (TT 13) .skip (.exit 0))) (.block 1 (.regd [.q, .q, .q, .q, .q, .q] [MM 14 6, MM 15 5, MM 16 6, OA 17 (.bin .rem (TT 15) (TT 16)), MM 5 14, MM 6 17])))))
  (.seq (.regd [.q, .q, .q, .q, .q, .q, .q, .q] [MM 18 0, MM 19 5, OA 20 (.bin .quo (TT 18) (TT 19)), MM 21 1, MM 22 5, OA 23 (.bin .quo (TT 21) (TT 22)), MM 0 20, MM 1 23]) (.seq (.reg [MM 24 0, OA 25 (.bin .lss (TT 24) (II 0)),
  MM 26 0, MM 27 0, OA 28 (.un .neg (TT 27)), OA 29 (.max (TT 26) (TT 28)), OA 30 (.call 83 [TT 29]), MM 31 1, OA 32 (.call 83 [TT 31]), OA 33 (.build [.bool false, .string ⟨#[]⟩, .string ⟨#[]⟩] [(0, (1, TT 25)), (1, (1, TT 30)),
  (2, (1, TT 32))]), OB (.store 3 (TT 4) (TT 33))]) .ret))))⟩
theorem ok_gantmake_Of : compF eff Tryz.prog Tryz.f18 = some ir_gantmake_Of := by kernel_rfl
theorem fn_gantmake_Of : Tryz.prog.funcs[18]? = some Tryz.f18 := Tryz.func18
def ir_gantmake_Below : IFun := ⟨14, [.tmp 4], .seq (.reg [OA 4 (.mv (II 0))]) (.seq (.reg [MM 5 0, MM 6 1, OA 7 (.bin .rem (TT 5) (TT 6)), MM 0 7]) (.seq (.seq (.reg [MM 8 0, OA 9 (.bin .lss (TT 8) (II 0))]) (.cond (TT 9) (.reg [MM 10 0, MM 11 1, OA 12 (.bin
  .add (TT 10) (TT 11)), MM 0 12]) .skip)) (.seq (.reg [MM 13 0, MM 4 13]) .ret)))⟩
theorem ok_gantmake_Below : compF eff Tryz.prog Tryz.f19 = some ir_gantmake_Below := by kernel_rfl
theorem fn_gantmake_Below : Tryz.prog.funcs[19]? = some Tryz.f19 := Tryz.func19
def ir_gantmake_Works : IFun := ⟨159, [.cell 2 true 8], .seq (.reg [OA 2 (.alloc 31 [.slice none 0 0, .slice none 0 0, .slice none 0 0, .slice none 0 0, .slice none 0 0, .bool false, .string ⟨#[]⟩, .string ⟨#[]⟩])]) (.seq (.reg [MM 12 0, OA 13 (.build [.slice
  none 0 0] [(0, (1, TT 12))]), OA 14 (.box 200 (TT 13)), MM 3 14]) (.seq (.reg [OA 4 (.alloc 31 [.slice none 0 0, .slice none 0 0, .slice none 0 0, .slice none 0 0, .slice none 0 0, .bool false, .string ⟨#[]⟩, .string ⟨#[]⟩])])
  (.seq (.seq (.reg [MM 15 3, OA 16 (.call 145 [TT 15, II 2]), OA 17 (.bin .add (II 1) (TT 16)), OA 18 (.mv (II 0))]) (.block 0 (.loop (.seq (.reg [OA 19 (.bin .lss (TT 18) (TT 17))]) (.seq (.cond (TT 19) .skip (.exit 0)) (.seq
  (.block 1 (.seq (.reg [MM 20 18, MM 5 20]) (.regd [.l, .l, .q, .q, .e none false, .q, .e none true, .q, .e none false] [FF 21 0 4, VV 22 21, MM 23 3, MM 24 5, OA 25 (.call 146 [TT 23, TT 24]), OA 26 (.bsl 51 12 1 [.string ⟨#[]⟩,
  .bool false, .string ⟨#[]⟩, .string ⟨#[]⟩, .bool false, .string ⟨#[]⟩, .string ⟨#[]⟩, .bool false, .bool false, .string ⟨#[]⟩, .string ⟨#[]⟩, .slice none 0 0] [(0, TT 25)]), OA 27 (.app 51 12 168 (TT 22) (TT 26)), FF 28 0 4, OB
  (.store 1 (TT 28) (TT 27))]))) (.reg [OA 29 (.bin .add (TT 18) (II 1)), MM 18 29]))))))) (.seq (.seq (.reg [MM 30 3, OA 31 (.call 145 [TT 30, II 3]), OA 32 (.mv (II 0))]) (.block 2 (.loop (.seq (.reg [OA 33 (.bin .lss (TT 32)
  (TT 31))]) (.seq (.cond (TT 33) .skip (.exit 2)) (.seq (.block 3 (.seq (.reg [MM 34 3, OA 35 (.call 145 [TT 34, II 80]), OA 36 (.bin .sub (TT 35) (II 30)), MM 37 3, OA 38 (.call 145 [TT 37, II 30]), OA 39 (.bin .add (II 12) (TT
  38)), MM 6 36, MM 7 39]) (.seq (.seq (.reg [MM 40 3, OA 41 (.call 145 [TT 40, II 2]), OA 42 (.bin .eql (TT 41) (II 1))]) (.cond (TT 42) (.reg [MM 43 7, OA 44 (.un .neg (TT 43)), OA 45 (.bin .sub (TT 44) (II 6)), MM 7 45])
  .skip)) (.regd [.l, .l, .l, .l, .l, .l, .q, .e none false, .l, .l, .l, .l, .e none false, .q, .q, .q, .e none true, .q, .e none false] [FF 46 1 4, VV 47 46, MM 48 6, MM 49 7, MM 50 6, OA 51 (.bin .add (TT 50) (II 1)), MM 52 3,
  OA 53 (.call 145 [TT 52, II 20]), OA 54 (.bin .add (TT 51) (TT 53)), MM 55 7, OA 56 (.bin .add (TT 55) (II 1)), MM 57 3, OA 58 (.call 145 [TT 57, II 5]), OA 59 (.bin .add (TT 56) (TT 58)), OA 60 (.call 147 [TT 48, TT 49, TT 54,
  TT 59]), OA 61 (.bsl 34 1 1 [.slice none 0 0] [(0, TT 60)]), OA 62 (.app 34 1 24 (TT 47) (TT 61)), FF 63 1 4, OB (.store 1 (TT 63) (TT 62))])))) (.reg [OA 64 (.bin .add (TT 32) (II 1)), MM 32 64]))))))) (.seq (.seq (.reg [MM 65
  3, OA 66 (.call 145 [TT 65, II 3]), OA 67 (.mv (II 0))]) (.block 4 (.loop (.seq (.reg [OA 68 (.bin .lss (TT 67) (TT 66))]) (.seq (.cond (TT 68) .skip (.exit 4)) (.seq (.block 5 (.seq (.reg [MM 69 67, MM 8 69]) (.regd [.l, .l,
  .l, .l, .l, .l, .q, .e none false, .q, .q, .q, .q, .q, .q, .e none true, .q, .e none false] [FF 70 2 4, VV 71 70, OA 72 (.bsl 9 1 2 [.string ⟨#[]⟩] [(0, .const (.string ⟨#[98, 111, 108, 116]⟩)), (1, .const (.string ⟨#[110, 117,
  116]⟩))]), MM 73 8, OA 74 (.iaddr 1 (TT 72) (TT 73)), VV 75 74, MM 76 3, OA 77 (.call 148 [TT 76]), OA 78 (.call 149 [II 0, II 0]), OA 79 (.call 18 [II 0, II 1]), OA 80 (.build [.bool false, .bool false, .string ⟨#[]⟩, .string
  ⟨#[]⟩] [(1, (3, TT 79))]), OA 81 (.build [.bool false, .string ⟨#[]⟩, .string ⟨#[]⟩, .bool false, .string ⟨#[]⟩, .string ⟨#[]⟩, .bool false, .bool false, .string ⟨#[]⟩, .string ⟨#[]⟩] [(0, (6, TT 78)), (6, (4, TT 80))]), OA 82
  (.build [.string ⟨#[]⟩, .slice none 0 0, .bool false, .string ⟨#[]⟩, .string ⟨#[]⟩, .bool false, .string ⟨#[]⟩, .string ⟨#[]⟩, .bool false, .bool false, .string ⟨#[]⟩, .string ⟨#[]⟩] [(0, (1, TT 75)), (1, (1, TT 77)), (2, (10,
  TT 81))]), OA 83 (.bsl 102 12 1 [.string ⟨#[]⟩, .slice none 0 0, .bool false, .string ⟨#[]⟩, .string ⟨#[]⟩, .bool false, .string ⟨#[]⟩, .string ⟨#[]⟩, .bool false, .bool false, .string ⟨#[]⟩, .string ⟨#[]⟩] [(0, TT 82)]), OA 84
  (.app 102 12 168 (TT 71) (TT 83)), FF 85 2 4, OB (.store 1 (TT 85) (TT 84))]))) (.reg [OA 86 (.bin .add (TT 67) (II 1)), MM 67 86]))))))) (.seq (.seq (.regd [.l, .l, .l, .q, .e none false, .q, .l] [FF 87 2 4, VV 88 87, OA 89
  (.len false (TT 88)), MM 90 3, OA 91 (.call 145 [TT 90, II 2]), OA 92 (.bin .add (TT 89) (TT 91)), OA 93 (.mv (II 0))]) (.block 6 (.loop (.seq (.reg [OA 94 (.bin .lss (TT 93) (TT 92))]) (.seq (.cond (TT 94) .skip (.exit 6))
  (.seq (.block 7 (.seq (.reg [MM 95 93, MM 9 95]) (.regd [.l, .l, .l, .l, .l, .l, .q, .e none false, .l, .l, .e none false, .q, .q, .l, .e none false, .q, .q, .l, .l, .l, .e none false, .q, .q, .q, .q, .e none true, .q, .e none
  false] [FF 96 3 4, VV 97 96, OA 98 (.bsl 9 1 3 [.string ⟨#[]⟩] [(0, .const (.string ⟨#[104, 101, 114, 101]⟩)), (1, .const (.string ⟨#[116, 104, 101, 114, 101]⟩)), (2, .const (.string ⟨#[98, 101, 121, 111, 110, 100]⟩))]), MM 99
  9, OA 100 (.iaddr 1 (TT 98) (TT 99)), VV 101 100, MM 102 3, OA 103 (.call 145 [TT 102, II 40]), OA 104 (.bin .sub (TT 103) (II 20)), MM 105 3, OA 106 (.call 145 [TT 105, II 24]), OA 107 (.bin .sub (TT 106) (II 12)), OA 108
  (.call 149 [TT 104, TT 107]), MM 109 3, OA 110 (.call 145 [TT 109, II 5]), OA 111 (.bin .sub (TT 110) (II 2)), OA 112 (.call 18 [TT 111, II 2]), OA 113 (.build [.bool false, .bool false, .string ⟨#[]⟩, .string ⟨#[]⟩] [(1, (3, TT
  112))]), OA 114 (.build [.bool false, .string ⟨#[]⟩, .string ⟨#[]⟩, .bool false, .string ⟨#[]⟩, .string ⟨#[]⟩, .bool false, .bool false, .string ⟨#[]⟩, .string ⟨#[]⟩] [(0, (6, TT 108)), (6, (4, TT 113))]), MM 115 3, OA 116
  (.call 145 [TT 115, II 20]), OA 117 (.bin .add (II 8) (TT 116)), OA 118 (.call 18 [II 1, TT 117]), OA 119 (.build [.string ⟨#[]⟩, .bool false, .string ⟨#[]⟩, .string ⟨#[]⟩, .bool false, .string ⟨#[]⟩, .string ⟨#[]⟩, .bool false,
  .bool false, .string ⟨#[]⟩, .string ⟨#[]⟩, .bool false, .string ⟨#[]⟩, .string ⟨#[]⟩] [(0, (1, TT 101)), (1, (10, TT 114)), (11, (3, TT 118))]), OA 120 (.bsl 77 14 1 [.string ⟨#[]⟩, .bool false, .string ⟨#[]⟩, .string ⟨#[]⟩,
  .bool false, .string ⟨#[]⟩, .string ⟨#[]⟩, .bool false, .bool false, .string ⟨#[]⟩, .string ⟨#[]⟩, .bool false, .string ⟨#[]⟩, .string ⟨#[]⟩] [(0, TT 119)]), OA 121 (.app 77 14 184 (TT 97) (TT 120)), FF 122 3 4, OB (.store 1 (TT
  122) (TT 121))]))) (.reg [OA 123 (.bin .add (TT 93) (II 1)), MM 93 123]))))))) (.seq (.seq (.reg [MM 124 3, OA 125 (.call 145 [TT 124, II 2]), OA 126 (.mv (II 0))]) (.block 8 (.loop (.seq (.reg [OA 127 (.bin .lss (TT 126) (TT
  125))]) (.seq (.cond (TT 127) .skip (.exit 8)) (.seq (.block 9 (.seq (.reg [MM 128 3, OA 129 (.call 145 [TT 128, II 60]), OA 130 (.bin .sub (TT 129) (II 30)), MM 131 3, OA 132 (.call 145 [TT 131, II 60]), OA 133 (.bin .sub (TT
  132) (II 30)), MM 10 130, MM 11 133]) (.regd [.l, .l, .q, .q, .q, .l, .q, .e none false, .l, .l, .l, .e none false, .q, .q, .q, .q, .q, .e none true, .q, .e none false] [FF 134 4 4, VV 135 134, MM 136 10, MM 137 11, OA 138
  (.call 149 [TT 136, TT 137]), MM 139 10, MM 140 3, OA 141 (.call 145 [TT 140, II 12]), OA 142 (.bin .add (TT 139) (TT 141)), MM 143 11, MM 144 3, OA 145 (.call 145 [TT 144, II 12]), OA 146 (.bin .add (TT 143) (TT 145)), OA 147
  (.call 149 [TT 142, TT 146]), OA 148 (.build [.bool false, .string ⟨#[]⟩, .string ⟨#[]⟩, .bool false, .string ⟨#[]⟩, .string ⟨#[]⟩, .bool false, .string ⟨#[]⟩, .string ⟨#[]⟩, .bool false, .string ⟨#[]⟩, .string ⟨#[]⟩] [(0, (6,
  TT 138)), (6, (6, TT 147))]), OA 149 (.build [.string ⟨#[]⟩, .bool false, .string ⟨#[]⟩, .string ⟨#[]⟩, .bool false, .string ⟨#[]⟩, .string ⟨#[]⟩, .bool false, .string ⟨#[]⟩, .string ⟨#[]⟩, .bool false, .string ⟨#[]⟩, .string
  ⟨#[]⟩] [(0, (1, .const (.string ⟨#[100, 111, 111, 114]⟩))), (1, (12, TT 148))]), OA 150 (.bsl 61 13 1 [.string ⟨#[]⟩, .bool false, .string ⟨#[]⟩, .string ⟨#[]⟩, .bool false, .string ⟨#[]⟩, .string ⟨#[]⟩, .bool false, .string
  ⟨#[]⟩, .string ⟨#[]⟩, .bool false, .string ⟨#[]⟩, .string ⟨#[]⟩] [(0, TT 149)]), OA 151 (.app 61 13 176 (TT 135) (TT 150)), FF 152 4 4, OB (.store 1 (TT 152) (TT 151))]))) (.reg [OA 153 (.bin .add (TT 126) (II 1)), MM 126
  153]))))))) (.seq (.reg [MM 154 3, OA 155 (.call 145 [TT 154, II 4]), OA 156 (.call 18 [TT 155, II 8]), FF 157 5 4, OB (.store 3 (TT 157) (TT 156))]) (.seq (.reg [LL 158 8 4, OB (.store 8 (TT 2) (TT 158))]) .ret)))))))))⟩
theorem ok_gantmake_Works : compF eff Tryz.prog Tryz.f52 = some ir_gantmake_Works := by kernel_rfl
theorem fn_gantmake_Works : Tryz.prog.funcs[52]? = some Tryz.f52 := Tryz.func52
def ir_gantmake_digits : IFun := ⟨18, [.tmp 2], .seq (.reg [OA 2 (.mv (.const (.string ⟨#[]⟩)))]) (.seq (.reg [OA 3 (.mv (.const (.slice none 0 0)))]) (.seq (.block 0 (.loop (.seq (.seq (.reg [MM 4 0, OA 5 (.bin .gtr (TT 4) (II 0))]) (.cond (TT 5) .skip (.exit
  0))) (.seq (.block 1 (.reg [MM 8 3, MM 9 0, OA 10 (.bin .rem (TT 9) (II 256)), OA 11 (.conv .u8 (TT 10)), OA 12 (.bsl 5 1 1 [.int .u8 0] [(0, TT 11)]), OA 13 (.app 5 1 1 (TT 8) (TT 12)), MM 3 13])) (.reg [MM 6 0, OA 7 (.bin .quo
  (TT 6) (II 256)), MM 0 7]))))) (.seq (.reg [MM 14 3, OA 15 (.call 169 [TT 14])]) (.seq (.reg [MM 16 3, OA 17 (.toStr (TT 16)), MM 2 17]) .ret))))⟩
theorem ok_gantmake_digits : compF eff Tryz.prog Tryz.f83 = some ir_gantmake_digits := by kernel_rfl
theorem fn_gantmake_digits : Tryz.prog.funcs[83]? = some Tryz.f83 := Tryz.func83
def ir_gantmake_arm : IFun := ⟨77, [.cell 4 true 12], .seq (.reg [OA 4 (.alloc 51 [.string ⟨#[]⟩, .bool false, .string ⟨#[]⟩, .string ⟨#[]⟩, .bool false, .string ⟨#[]⟩, .string ⟨#[]⟩, .bool false, .bool false, .string ⟨#[]⟩, .string ⟨#[]⟩, .slice none 0 0])])
  (.seq (.reg [OA 8 (.bsl 9 1 4 [.string ⟨#[]⟩] [(0, .const (.string ⟨#[111, 110, 101]⟩)), (1, .const (.string ⟨#[116, 119, 111]⟩)), (2, .const (.string ⟨#[116, 104, 114, 101, 101]⟩)), (3, .const (.string ⟨#[102, 111, 117,
  114]⟩))]), MM 9 1, OA 10 (.iaddr 1 (TT 8) (TT 9)), VV 11 10, OA 12 (.build [.string ⟨#[]⟩, .bool false, .string ⟨#[]⟩, .string ⟨#[]⟩, .bool false, .string ⟨#[]⟩, .string ⟨#[]⟩, .bool false, .bool false, .string ⟨#[]⟩, .string
  ⟨#[]⟩, .slice none 0 0] [(0, (1, TT 11))]), OA 5 (.alloc 51 [.string ⟨#[]⟩, .bool false, .string ⟨#[]⟩, .string ⟨#[]⟩, .bool false, .string ⟨#[]⟩, .string ⟨#[]⟩, .bool false, .bool false, .string ⟨#[]⟩, .string ⟨#[]⟩, .slice
  none 0 0]), OB (.store 12 (TT 5) (TT 12))]) (.seq (.regd [.q, .q, .q, .l, .q, .e none false, .l, .l, .l, .e none false, .q, .q, .q, .q, .q, .e none false] [MM 13 1, OA 14 (.bin .mul (II 40) (TT 13)), OA 15 (.call 149 [TT 14, II
  0]), OA 16 (.bsl 3 1 4 [.int .i64 0] [(0, II 0), (1, II 1), (2, II (-1)), (3, II 1)]), MM 17 0, OA 18 (.call 145 [TT 17, II 4]), OA 19 (.iaddr 1 (TT 16) (TT 18)), VV 20 19, MM 21 0, OA 22 (.call 145 [TT 21, II 3]), OA 23 (.bin
  .add (II 1) (TT 22)), OA 24 (.call 18 [TT 20, TT 23]), OA 25 (.build [.bool false, .bool false, .string ⟨#[]⟩, .string ⟨#[]⟩] [(1, (3, TT 24))]), OA 26 (.build [.bool false, .string ⟨#[]⟩, .string ⟨#[]⟩, .bool false, .string
  ⟨#[]⟩, .string ⟨#[]⟩, .bool false, .bool false, .string ⟨#[]⟩, .string ⟨#[]⟩] [(0, (6, TT 15)), (6, (4, TT 25))]), FF 27 1 5, OB (.store 10 (TT 27) (TT 26))]) (.seq (.seq (.reg [MM 28 0, OA 29 (.call 145 [TT 28, II 3]), OA 30
  (.bin .add (II 1) (TT 29)), OA 31 (.mv (II 0))]) (.block 0 (.loop (.seq (.reg [OA 32 (.bin .lss (TT 31) (TT 30))]) (.seq (.cond (TT 32) .skip (.exit 0)) (.seq (.block 1 (.seq (.reg [MM 33 0, OA 34 (.call 145 [TT 33, II 4]), OA
  35 (.bin .mul (II 2) (TT 34)), OA 36 (.bin .add (II 4) (TT 35)), MM 6 36]) (.seq (.reg [MM 37 6, OA 38 (.call 18 [TT 37, II 4]), MM 39 0, OA 40 (.call 145 [TT 39, II 6]), OA 41 (.bin .sub (II (-1)) (TT 40)), OA 42 (.call 18 [TT
  41, II 3]), MM 43 0, OA 44 (.call 145 [TT 43, II 6]), OA 45 (.bin .add (II 1) (TT 44)), OA 46 (.call 18 [TT 45, II 3]), MM 47 0, OA 48 (.call 145 [TT 47, II 8]), OA 49 (.bin .add (II 4) (TT 48)), OA 50 (.call 18 [II 1, TT 49]),
  MM 51 0, OA 52 (.call 145 [TT 51, II 20]), OA 53 (.bin .add (II 10) (TT 52)), OA 54 (.call 18 [II 1, TT 53]), MM 55 6, OA 56 (.bin .add (TT 55) (II 1)), OA 57 (.call 147 [II (-1), II (-1), TT 56, II 1]), OA 58 (.build [.bool
  false, .string ⟨#[]⟩, .string ⟨#[]⟩, .bool false, .string ⟨#[]⟩, .string ⟨#[]⟩, .bool false, .string ⟨#[]⟩, .string ⟨#[]⟩, .bool false, .string ⟨#[]⟩, .string ⟨#[]⟩, .bool false, .string ⟨#[]⟩, .string ⟨#[]⟩, .slice none 0 0]
  [(0, (3, TT 38)), (3, (3, TT 42)), (6, (3, TT 46)), (9, (3, TT 50)), (12, (3, TT 54)), (15, (1, TT 57))]), OA 7 (.alloc 53 [.bool false, .string ⟨#[]⟩, .string ⟨#[]⟩, .bool false, .string ⟨#[]⟩, .string ⟨#[]⟩, .bool false,
  .string ⟨#[]⟩, .string ⟨#[]⟩, .bool false, .string ⟨#[]⟩, .string ⟨#[]⟩, .bool false, .string ⟨#[]⟩, .string ⟨#[]⟩, .slice none 0 0]), OB (.store 16 (TT 7) (TT 58))]) (.seq (.seq (.reg [MM 59 0, OA 60 (.call 145 [TT 59, II 3]),
  OA 61 (.bin .eql (TT 60) (II 2))]) (.cond (TT 61) (.reg [OA 62 (.call 149 [II (-1), II (-1)]), MM 63 6, OA 64 (.bin .add (TT 63) (II 1)), OA 65 (.call 149 [TT 64, II 0]), OA 66 (.call 149 [II (-1), II 1]), OA 67 (.bsl 44 6 3
  [.bool false, .string ⟨#[]⟩, .string ⟨#[]⟩, .bool false, .string ⟨#[]⟩, .string ⟨#[]⟩] [(0, TT 62), (1, TT 65), (2, TT 66)]), FF 68 15 7, OB (.store 1 (TT 68) (TT 67))]) .skip)) (.reg [FF 69 11 5, VV 70 69, LL 71 16 7, OA 72
  (.bsl 53 16 1 [.bool false, .string ⟨#[]⟩, .string ⟨#[]⟩, .bool false, .string ⟨#[]⟩, .string ⟨#[]⟩, .bool false, .string ⟨#[]⟩, .string ⟨#[]⟩, .bool false, .string ⟨#[]⟩, .string ⟨#[]⟩, .bool false, .string ⟨#[]⟩, .string
  ⟨#[]⟩, .slice none 0 0] [(0, TT 71)]), OA 73 (.app 53 16 224 (TT 70) (TT 72)), FF 74 11 5, OB (.store 1 (TT 74) (TT 73))]))))) (.reg [OA 75 (.bin .add (TT 31) (II 1)), MM 31 75]))))))) (.seq (.reg [LL 76 12 5, OB (.store 12 (TT
  4) (TT 76))]) .ret))))⟩
theorem ok_gantmake_arm : compF eff Tryz.prog Tryz.f146 = some ir_gantmake_arm := by kernel_rfl
theorem fn_gantmake_arm : Tryz.prog.funcs[146]? = some Tryz.f146 := Tryz.func146
def ir_gantmake_rectangle : IFun := ⟨22, [.tmp 8], .seq (.reg [OA 8 (.mv (.const (.slice none 0 0)))]) (.seq (.reg [MM 9 0, MM 10 1, OA 11 (.call 149 [TT 9, TT 10]), MM 12 2, MM 13 1, OA 14 (.call 149 [TT 12, TT 13]), MM 15 2, MM 16 3, OA 17 (.call 149 [TT 15, TT
  16]), MM 18 0, MM 19 3, OA 20 (.call 149 [TT 18, TT 19]), OA 21 (.bsl 44 6 4 [.bool false, .string ⟨#[]⟩, .string ⟨#[]⟩, .bool false, .string ⟨#[]⟩, .string ⟨#[]⟩] [(0, TT 11), (1, TT 14), (2, TT 17), (3, TT 20)]), MM 8 21])
  .ret)⟩
theorem ok_gantmake_rectangle : compF eff Tryz.prog Tryz.f147 = some ir_gantmake_rectangle := by kernel_rfl
theorem fn_gantmake_rectangle : Tryz.prog.funcs[147]? = some Tryz.f147 := Tryz.func147
def ir_gantmake_poly : IFun := ⟨93, [.tmp 2], .seq (.reg [OA 2 (.mv (.const (.slice none 0 0)))]) (.seq (.reg [MM 5 0, OA 6 (.call 145 [TT 5, II 6]), OA 7 (.bin .add (II 1) (TT 6)), MM 8 0, OA 9 (.call 145 [TT 8, II 6]), OA 10 (.bin .add (II 1) (TT 9)), MM 3 7,
  MM 4 10]) (.seq (.seq (.reg [MM 11 0, OA 12 (.call 145 [TT 11, II 4])]) (.block 0 (.seq (.reg [OA 14 (.bin .eql (TT 12) (II 0)), MM 13 14]) (.cond (TT 13) (.seq (.reg [MM 15 3, OA 16 (.un .neg (TT 15)), MM 17 4, OA 18 (.un .neg
  (TT 17)), OA 19 (.call 149 [TT 16, TT 18]), MM 20 3, MM 21 4, OA 22 (.un .neg (TT 21)), OA 23 (.call 149 [TT 20, TT 22]), MM 24 3, MM 25 4, OA 26 (.call 149 [TT 24, TT 25]), MM 27 3, OA 28 (.un .neg (TT 27)), MM 29 4, OA 30
  (.call 149 [TT 28, TT 29]), OA 31 (.bsl 44 6 4 [.bool false, .string ⟨#[]⟩, .string ⟨#[]⟩, .bool false, .string ⟨#[]⟩, .string ⟨#[]⟩] [(0, TT 19), (1, TT 23), (2, TT 26), (3, TT 30)]), MM 2 31]) .ret) (.seq (.reg [OA 33 (.bin
  .eql (TT 12) (II 1)), MM 32 33]) (.cond (TT 32) (.seq (.reg [MM 34 3, OA 35 (.un .neg (TT 34)), MM 36 4, OA 37 (.un .neg (TT 36)), OA 38 (.call 149 [TT 35, TT 37]), MM 39 3, MM 40 4, OA 41 (.un .neg (TT 40)), OA 42 (.call 149
  [TT 39, TT 41]), MM 43 0, MM 44 3, OA 45 (.bin .mul (II 2) (TT 44)), OA 46 (.bin .add (TT 45) (II 1)), OA 47 (.call 145 [TT 43, TT 46]), MM 48 3, OA 49 (.bin .sub (TT 47) (TT 48)), MM 50 4, OA 51 (.call 149 [TT 49, TT 50]), OA
  52 (.bsl 44 6 3 [.bool false, .string ⟨#[]⟩, .string ⟨#[]⟩, .bool false, .string ⟨#[]⟩, .string ⟨#[]⟩] [(0, TT 38), (1, TT 42), (2, TT 51)]), MM 2 52]) .ret) (.seq (.reg [OA 54 (.bin .eql (TT 12) (II 2)), MM 53 54]) (.cond (TT
  53) (.seq (.reg [MM 55 3, OA 56 (.un .neg (TT 55)), OA 57 (.bin .sub (TT 56) (II 1)), MM 58 4, OA 59 (.un .neg (TT 58)), OA 60 (.bin .sub (TT 59) (II 1)), OA 61 (.call 149 [TT 57, TT 60]), MM 62 3, MM 63 4, OA 64 (.un .neg (TT
  63)), OA 65 (.bin .sub (TT 64) (II 1)), OA 66 (.call 149 [TT 62, TT 65]), MM 67 3, OA 68 (.bin .add (TT 67) (II 1)), MM 69 4, OA 70 (.un .neg (TT 69)), OA 71 (.call 149 [TT 68, TT 70]), MM 72 3, OA 73 (.bin .add (TT 72) (II 1)),
  MM 74 4, OA 75 (.call 149 [TT 73, TT 74]), MM 76 3, OA 77 (.un .neg (TT 76)), OA 78 (.bin .sub (TT 77) (II 1)), MM 79 4, OA 80 (.call 149 [TT 78, TT 79]), OA 81 (.bsl 44 6 5 [.bool false, .string ⟨#[]⟩, .string ⟨#[]⟩, .bool
  false, .string ⟨#[]⟩, .string ⟨#[]⟩] [(0, TT 61), (1, TT 66), (2, TT 71), (3, TT 75), (4, TT 80)]), MM 2 81]) .ret) .skip)))))))) (.seq (.reg [MM 82 3, OA 83 (.un .neg (TT 82)), OA 84 (.call 149 [TT 83, II 0]), MM 85 4, OA 86
  (.un .neg (TT 85)), OA 87 (.call 149 [II 0, TT 86]), MM 88 3, OA 89 (.call 149 [TT 88, II 0]), MM 90 4, OA 91 (.call 149 [II 0, TT 90]), OA 92 (.bsl 44 6 4 [.bool false, .string ⟨#[]⟩, .string ⟨#[]⟩, .bool false, .string ⟨#[]⟩,
  .string ⟨#[]⟩] [(0, TT 84), (1, TT 87), (2, TT 89), (3, TT 91)]), MM 2 92]) .ret)))⟩
theorem ok_gantmake_poly : compF eff Tryz.prog Tryz.f148 = some ir_gantmake_poly := by kernel_rfl
theorem fn_gantmake_poly : Tryz.prog.funcs[148]? = some Tryz.f148 := Tryz.func148
def ir_gantmake_at : IFun := ⟨10, [.cell 4 true 6], .seq (.reg [OA 4 (.alloc 44 [.bool false, .string ⟨#[]⟩, .string ⟨#[]⟩, .bool false, .string ⟨#[]⟩, .string ⟨#[]⟩])]) (.seq (.reg [MM 5 0, OA 6 (.call 18 [TT 5, II 4]), MM 7 1, OA 8 (.call 18 [TT 7, II 4]),
  OA 9 (.build [.bool false, .string ⟨#[]⟩, .string ⟨#[]⟩, .bool false, .string ⟨#[]⟩, .string ⟨#[]⟩] [(0, (3, TT 6)), (3, (3, TT 8))]), OB (.store 6 (TT 4) (TT 9))]) .ret)⟩
theorem ok_gantmake_at : compF eff Tryz.prog Tryz.f149 = some ir_gantmake_at := by kernel_rfl
theorem fn_gantmake_at : Tryz.prog.funcs[149]? = some Tryz.f149 := Tryz.func149
def ir_gantmake_Stream_Next : IFun := ⟨33, [.tmp 4], .seq (.reg [OA 4 (.mv (II 0))]) (.seq (.seq (.reg [MM 6 0, OA 7 (.nilck (TT 6)), FF 8 0 7, VV 9 8, OA 10 (.len false (TT 9)), OA 11 (.bin .eql (TT 10) (II 0)), MM 12 11, MG 13 1 12 false, OC 14 (.bin .lss (TT 13)
  (II 1)) 12 false, OA 15 (.pick (TT 12) (.const (.bool true)) (TT 14))]) (.cond (TT 15) (.seq (.reg [OA 4 (.mv (II 0))]) .ret) .skip)) (.seq (.reg [MM 16 0, OA 17 (.nilck (TT 16)), FF 18 0 17, VV 19 18, OA 20 (.iaddr 1 (TT 19)
  (II 0)), VV 21 20, MM 5 21]) (.seq (.reg [MM 22 0, MM 23 0, OA 24 (.nilck (TT 23)), FF 25 0 24, VV 26 25, OA 27 (.slcl 1 (TT 26) (some (II 1)) none), OA 28 (.nilck (TT 22)), FF 29 0 28, OB (.store 1 (TT 29) (TT 27))]) (.seq
  (.reg [MM 30 5, MM 31 1, OA 32 (.call 19 [TT 30, TT 31]), MM 4 32]) .ret))))⟩
theorem ok_gantmake_Stream_Next : compF eff Tryz.prog Tryz.f145 = some ir_gantmake_Stream_Next := by kernel_rfl
theorem fn_gantmake_Stream_Next : Tryz.prog.funcs[145]? = some Tryz.f145 := Tryz.func145
def ir_gantkeep2_MoveOpens : IFun := ⟨143, [.tmp 6], .seq (.reg [OA 6 (.mv (.const (.bool false)))]) (.seq (.reg [MM 19 0, OA 20 (.call 9 [TT 19]), MM 18 20, OA 21 (.ext (TT 18) 0), OA 22 (.ext (TT 18) 1), OA 23 (.ext (TT 18) 2), OA 7 (.alloc 31 [.slice none 0 0,
  .slice none 0 0, .slice none 0 0, .slice none 0 0, .slice none 0 0, .bool false, .string ⟨#[]⟩, .string ⟨#[]⟩]), OA 8 (.alloc 37 [.int .i64 0, .slice none 0 0, .slice none 0 0, .slice none 0 0, .slice none 0 0]), OB (.store 8
  (TT 7) (TT 21)), OB (.store 5 (TT 8) (TT 22)), MM 9 23]) (.seq (.seq (.reg [MM 24 9, OA 25 (.un .not (TT 24))]) (.cond (TT 25) (.seq (.reg [OA 6 (.mv (.const (.bool false)))]) .ret) .skip)) (.seq (.seq (.reg [FF 26 4 7, VV 27
  26, OA 28 (.len false (TT 27)), OA 29 (.bin .eql (TT 28) (II 0))]) (.cond (TT 29) (.seq (.reg [LL 31 8 7, LL 32 5 8, OA 33 (.call 13 [TT 31, TT 32, II 0, .const (.bool true)]), MM 30 33, OA 34 (.ext (TT 30) 0), OA 35 (.ext (TT
  30) 1), OA 10 (.alloc 37 [.int .i64 0, .slice none 0 0, .slice none 0 0, .slice none 0 0, .slice none 0 0]), OB (.store 5 (TT 10) (TT 34)), MM 11 35]) (.seq (.reg [MM 36 11, OA 37 (.bin .eql (TT 36) (II 1)), MM 6 37]) .ret))
  .skip)) (.seq (.reg [LL 39 8 7, LL 40 5 8, MM 41 1, OA 42 (.call 13 [TT 39, TT 40, II 0, TT 41]), MM 38 42, OA 43 (.ext (TT 38) 0), OA 44 (.ext (TT 38) 1), OB (.store 5 (TT 8) (TT 43)), MM 12 44]) (.seq (.seq (.reg [MM 45 12, OA
  46 (.bin .neq (TT 45) (II 0)), MM 47 46, FG 48 4 8 47 false, VG 49 48 47 false, OC 50 (.len false (TT 49)) 47 false, FG 51 4 7 47 false, VG 52 51 47 false, OC 53 (.len false (TT 52)) 47 false, OC 54 (.bin .neq (TT 50) (TT 53))
  47 false, OA 55 (.pick (TT 47) (.const (.bool true)) (TT 54)), MM 56 55, FG 57 4 8 56 false, VG 58 57 56 false, OC 59 (.iaddr 1 (TT 58) (II 0)) 56 false, VG 60 59 56 false, MG 61 1 56 false, OC 62 (.beq true (TT 60) (TT 61)) 56
  false, OA 63 (.pick (TT 56) (.const (.bool true)) (TT 62))]) (.cond (TT 63) (.seq (.reg [OA 6 (.mv (.const (.bool false)))]) .ret) .skip)) (.seq (.reg [FF 64 4 7, VV 65 64, OA 66 (.iaddr 13 (TT 65) (II 0)), FF 67 1 66, LL 68 12
  67, OA 13 (.alloc 59 [.bool false, .string ⟨#[]⟩, .string ⟨#[]⟩, .bool false, .string ⟨#[]⟩, .string ⟨#[]⟩, .bool false, .string ⟨#[]⟩, .string ⟨#[]⟩, .bool false, .string ⟨#[]⟩, .string ⟨#[]⟩]), OB (.store 12 (TT 13) (TT 68))])
  (.seq (.regd [.q, .q, .q, .q, .q, .q, .q, .q, .q, .q, .q, .q, .q, .q, .q, .q, .q, .a, .e (some 14) false] [FF 69 0 13, FF 70 0 69, LL 71 3 70, FF 72 6 13, FF 73 0 72, LL 74 3 73, OA 75 (.call 15 [TT 71, TT 74]), OA 76 (.call 14
  [TT 75]), FF 77 0 13, FF 78 3 77, LL 79 3 78, FF 80 6 13, FF 81 3 80, LL 82 3 81, OA 83 (.call 15 [TT 79, TT 82]), OA 84 (.call 14 [TT 83]), OA 85 (.build [.bool false, .string ⟨#[]⟩, .string ⟨#[]⟩, .bool false, .string ⟨#[]⟩,
  .string ⟨#[]⟩] [(0, (3, TT 76)), (3, (3, TT 84))]), OA 14 (.alloc 44 [.bool false, .string ⟨#[]⟩, .string ⟨#[]⟩, .bool false, .string ⟨#[]⟩, .string ⟨#[]⟩]), OB (.store 6 (TT 14) (TT 85))]) (.seq (.reg [LL 87 8 7, LL 88 5 8, LL
  89 6 14, OA 90 (.call 16 [TT 87, TT 88, II 0, TT 89]), MM 86 90, OA 91 (.ext (TT 86) 0), OA 92 (.ext (TT 86) 1), OA 15 (.alloc 37 [.int .i64 0, .slice none 0 0, .slice none 0 0, .slice none 0 0, .slice none 0 0]), OB (.store 5
  (TT 15) (TT 91)), MM 12 92]) (.seq (.regd [.q, .q, .q, .q, .q, .q, .q, .q, .q, .q, .q, .q, .q, .q, .q, .l, .a, .e (some 16) false, .q] [LL 94 8 7, LL 95 5 8, FF 96 6 13, LL 97 6 96, MM 98 2, OA 99 (.len false (TT 98)), OA 100
  (.call 19 [TT 99, II 9]), OA 101 (.bin .add (II 1) (TT 100)), OA 102 (.call 18 [TT 101, II 3]), OA 103 (.call 18 [II 0, II 1]), OA 104 (.build [.bool false, .string ⟨#[]⟩, .string ⟨#[]⟩, .bool false, .string ⟨#[]⟩, .string
  ⟨#[]⟩] [(0, (3, TT 102)), (3, (3, TT 103))]), OA 105 (.call 17 [TT 97, TT 104]), OA 106 (.call 16 [TT 94, TT 95, II 0, TT 105]), MM 93 106, OA 107 (.ext (TT 93) 0), OA 108 (.ext (TT 93) 1), OA 16 (.alloc 37 [.int .i64 0, .slice
  none 0 0, .slice none 0 0, .slice none 0 0, .slice none 0 0]), OB (.store 5 (TT 16) (TT 107)), MM 17 108]) (.seq (.seq (.reg [MM 109 1, OA 110 (.un .not (TT 109))]) (.cond (TT 110) (.seq (.reg [MM 111 12, OA 112 (.bin .eql (TT
  111) (II 7)), MM 113 112, MG 114 17 113 true, OC 115 (.bin .eql (TT 114) (II 7)) 113 true, OA 116 (.pick (TT 113) (TT 115) (.const (.bool false))), MM 6 116]) .ret) .skip)) (.seq (.regd [.q, .q, .q, .q, .q, .q, .q, .q, .q, .q,
  .q, .q, .q, .q, .q, .q, .q, .q, .q, .q, .q, .q, .q, .q, .q, .q, .q] [MM 117 12, OA 118 (.bin .eql (TT 117) (II 0)), MM 119 118, FG 120 3 15 119 true, VG 121 120 119 true, OC 122 (.len false (TT 121)) 119 true, OC 123 (.bin .eql
  (TT 122) (II 1)) 119 true, OA 124 (.pick (TT 119) (TT 123) (.const (.bool false))), MM 125 124, FG 126 3 15 125 true, VG 127 126 125 true, OC 128 (.iaddr 6 (TT 127) (II 0)) 125 true, LG 129 6 128 125 true, LG 130 6 14 125 true,
  OC 131 (.aeq false [.b, .s, .s, .b, .s, .s] (TT 129) (TT 130)) 125 true, OA 132 (.pick (TT 125) (TT 131) (.const (.bool false))), MM 133 132, MG 134 17 133 true, OC 135 (.bin .eql (TT 134) (II 17)) 133 true, OA 136 (.pick (TT
  133) (TT 135) (.const (.bool false))), MM 137 136, FG 138 3 16 137 true, VG 139 138 137 true, OC 140 (.len false (TT 139)) 137 true, OC 141 (.bin .eql (TT 140) (II 0)) 137 true, OA 142 (.pick (TT 137) (TT 141) (.const (.bool
  false))), MM 6 142]) .ret)))))))))))⟩
theorem ok_gantkeep2_MoveOpens : compF eff Tryz.prog Tryz.f4 = some ir_gantkeep2_MoveOpens := by kernel_rfl
theorem fn_gantkeep2_MoveOpens : Tryz.prog.funcs[4]? = some Tryz.f4 := Tryz.func4
def ir_gantkeep2_begun : IFun := ⟨48, [.cell 2 true 8, .cell 3 true 5, .tmp 4], .seq (.reg [OA 2 (.alloc 31 [.slice none 0 0, .slice none 0 0, .slice none 0 0, .slice none 0 0, .slice none 0 0, .bool false, .string ⟨#[]⟩, .string ⟨#[]⟩]), OA 3 (.alloc 37 [.int
  .i64 0, .slice none 0 0, .slice none 0 0, .slice none 0 0, .slice none 0 0]), OA 4 (.mv (.const (.bool false)))]) (.seq (.reg [MM 8 0, OA 9 (.call 52 [TT 8]), OA 5 (.alloc 31 [.slice none 0 0, .slice none 0 0, .slice none 0 0,
  .slice none 0 0, .slice none 0 0, .bool false, .string ⟨#[]⟩, .string ⟨#[]⟩]), OB (.store 8 (TT 5) (TT 9))]) (.seq (.reg [LL 11 8 5, OA 12 (.call 50 [TT 11]), MM 10 12, OA 13 (.ext (TT 10) 0), OA 14 (.ext (TT 10) 1), OA 6
  (.alloc 37 [.int .i64 0, .slice none 0 0, .slice none 0 0, .slice none 0 0, .slice none 0 0]), OB (.store 5 (TT 6) (TT 13)), MM 7 14]) (.seq (.regd [.q, .l, .q, .q, .q, .q, .q, .q, .q, .q, .q, .q, .q, .q, .q, .q, .q, .q, .q, .q,
  .q, .q, .q, .q, .q, .q, .q, .q, .q, .q, .q, .l, .l, .e none false, .e none false, .q] [LL 15 8 5, LL 16 5 6, MM 17 7, OA 18 (.bin .eql (TT 17) (II 0)), MM 19 18, FG 20 1 6 19 true, VG 21 20 19 true, OC 22 (.len false (TT 21)) 19
  true, FG 23 0 5 19 true, VG 24 23 19 true, OC 25 (.len false (TT 24)) 19 true, OC 26 (.bin .eql (TT 22) (TT 25)) 19 true, OA 27 (.pick (TT 19) (TT 26) (.const (.bool false))), MM 28 27, FG 29 2 6 28 true, VG 30 29 28 true, OC 31
  (.len false (TT 30)) 28 true, FG 32 2 5 28 true, VG 33 32 28 true, OC 34 (.len false (TT 33)) 28 true, OC 35 (.bin .eql (TT 31) (TT 34)) 28 true, OA 36 (.pick (TT 28) (TT 35) (.const (.bool false))), MM 37 36, LG 38 8 5 37 true,
  LG 39 5 6 37 true, OC 40 (.call 12 [TT 38, TT 39]) 37 true, OC 41 (.bin .eql (TT 40) (II 0)) 37 true, OA 42 (.pick (TT 37) (TT 41) (.const (.bool false))), MM 43 42, OC 44 (.build [.slice none 0 0, .slice none 0 0, .slice none 0
  0, .slice none 0 0, .slice none 0 0, .bool false, .string ⟨#[]⟩, .string ⟨#[]⟩] []) 43 true, OC 45 (.call 11 [TT 44]) 43 true, OC 46 (.bin .eql (TT 45) (II 4)) 43 true, OA 47 (.pick (TT 43) (TT 46) (.const (.bool false))), OB
  (.store 8 (TT 2) (TT 15)), OB (.store 5 (TT 3) (TT 16)), MM 4 47]) .ret)))⟩
theorem ok_gantkeep2_begun : compF eff Tryz.prog Tryz.f9 = some ir_gantkeep2_begun := by kernel_rfl
theorem fn_gantkeep2_begun : Tryz.prog.funcs[9]? = some Tryz.f9 := Tryz.func9
def ir_gantkeep2_half : IFun := ⟨6, [.cell 2 true 3], .seq (.reg [OA 1 (.box 29 (TT 0)), OA 2 (.alloc 29 [.bool false, .string ⟨#[]⟩, .string ⟨#[]⟩])]) (.seq (.regd [.q, .q, .q, .e none false] [LL 3 3 1, OA 4 (.call 18 [II 1, II 2]), OA 5 (.call 77 [TT 3, TT
  4]), OB (.store 3 (TT 2) (TT 5))]) .ret)⟩
theorem ok_gantkeep2_half : compF eff Tryz.prog Tryz.f14 = some ir_gantkeep2_half := by kernel_rfl
theorem fn_gantkeep2_half : Tryz.prog.funcs[14]? = some Tryz.f14 := Tryz.func14
def ir_slices_ContainsFunc_api_Rat_api_Rat : IFun := ⟨9, [.tmp 4], .seq (.reg [OA 4 (.mv (.const (.bool false)))]) (.seq (.reg [MM 5 0, MM 6 1, OA 7 (.call 142 [TT 5, TT 6]), OA 8 (.bin .geq (TT 7) (II 0)), MM 4 8]) .ret)⟩
theorem ok_slices_ContainsFunc_api_Rat_api_Rat : compF eff Tryz.prog Tryz.f48 = some ir_slices_ContainsFunc_api_Rat_api_Rat := by kernel_rfl
theorem fn_slices_ContainsFunc_api_Rat_api_Rat : Tryz.prog.funcs[48]? = some Tryz.f48 := Tryz.func48
def ir_slices_Clone_api_Vec_api_Vec : IFun := ⟨8, [.tmp 2], .seq (.reg [OA 2 (.mv (.const (.slice none 0 0)))]) (.seq (.seq (.reg [MM 3 0, OA 4 (.isnil false false (TT 3))]) (.cond (TT 4) (.seq (.reg [OA 2 (.mv (.const (.slice none 0 0)))]) .ret) .skip)) (.seq (.reg [OA 5
  (.bsl0 44), MM 6 0, OA 7 (.app 44 6 80 (TT 5) (TT 6)), MM 2 7]) .ret))⟩
theorem ok_slices_Clone_api_Vec_api_Vec : compF eff Tryz.prog Tryz.f55 = some ir_slices_Clone_api_Vec_api_Vec := by kernel_rfl
theorem fn_slices_Clone_api_Vec_api_Vec : Tryz.prog.funcs[55]? = some Tryz.f55 := Tryz.func55
def ir_slices_ContainsFunc_api_Frame_api_Frame : IFun := ⟨9, [.tmp 4], .seq (.reg [OA 4 (.mv (.const (.bool false)))]) (.seq (.reg [MM 5 0, MM 6 1, OA 7 (.call 157 [TT 5, TT 6]), OA 8 (.bin .geq (TT 7) (II 0)), MM 4 8]) .ret)⟩
theorem ok_slices_ContainsFunc_api_Frame_api_Frame : compF eff Tryz.prog Tryz.f71 = some ir_slices_ContainsFunc_api_Frame_api_Frame := by kernel_rfl
theorem fn_slices_ContainsFunc_api_Frame_api_Frame : Tryz.prog.funcs[71]? = some Tryz.f71 := Tryz.func71
def ir_slices_ContainsFunc_api_Vec_api_Vec : IFun := ⟨9, [.tmp 4], .seq (.reg [OA 4 (.mv (.const (.bool false)))]) (.seq (.reg [MM 5 0, MM 6 1, OA 7 (.call 158 [TT 5, TT 6]), OA 8 (.bin .geq (TT 7) (II 0)), MM 4 8]) .ret)⟩
theorem ok_slices_ContainsFunc_api_Vec_api_Vec : compF eff Tryz.prog Tryz.f74 = some ir_slices_ContainsFunc_api_Vec_api_Vec := by kernel_rfl
theorem fn_slices_ContainsFunc_api_Vec_api_Vec : Tryz.prog.funcs[74]? = some Tryz.f74 := Tryz.func74
def ir_slices_Clone_api_Frame_api_Frame : IFun := ⟨8, [.tmp 2], .seq (.reg [OA 2 (.mv (.const (.slice none 0 0)))]) (.seq (.seq (.reg [MM 3 0, OA 4 (.isnil false false (TT 3))]) (.cond (TT 4) (.seq (.reg [OA 2 (.mv (.const (.slice none 0 0)))]) .ret) .skip)) (.seq (.reg [OA 5
  (.bsl0 48), MM 6 0, OA 7 (.app 48 10 128 (TT 5) (TT 6)), MM 2 7]) .ret))⟩
theorem ok_slices_Clone_api_Frame_api_Frame : compF eff Tryz.prog Tryz.f90 = some ir_slices_Clone_api_Frame_api_Frame := by kernel_rfl
theorem fn_slices_Clone_api_Frame_api_Frame : Tryz.prog.funcs[90]? = some Tryz.f90 := Tryz.func90
def ir_slices_Clone_bool_bool : IFun := ⟨8, [.tmp 2], .seq (.reg [OA 2 (.mv (.const (.slice none 0 0)))]) (.seq (.seq (.reg [MM 3 0, OA 4 (.isnil false false (TT 3))]) (.cond (TT 4) (.seq (.reg [OA 2 (.mv (.const (.slice none 0 0)))]) .ret) .skip)) (.seq (.reg [OA 5
  (.bsl0 4), MM 6 0, OA 7 (.app 4 1 1 (TT 5) (TT 6)), MM 2 7]) .ret))⟩
theorem ok_slices_Clone_bool_bool : compF eff Tryz.prog Tryz.f91 = some ir_slices_Clone_bool_bool := by kernel_rfl
theorem fn_slices_Clone_bool_bool : Tryz.prog.funcs[91]? = some Tryz.f91 := Tryz.func91
def ir_slices_Clone_api_Rat_api_Rat : IFun := ⟨8, [.tmp 2], .seq (.reg [OA 2 (.mv (.const (.slice none 0 0)))]) (.seq (.seq (.reg [MM 3 0, OA 4 (.isnil false false (TT 3))]) (.cond (TT 4) (.seq (.reg [OA 2 (.mv (.const (.slice none 0 0)))]) .ret) .skip)) (.seq (.reg [OA 5
  (.bsl0 29), MM 6 0, OA 7 (.app 29 3 40 (TT 5) (TT 6)), MM 2 7]) .ret))⟩
theorem ok_slices_Clone_api_Rat_api_Rat : compF eff Tryz.prog Tryz.f92 = some ir_slices_Clone_api_Rat_api_Rat := by kernel_rfl
theorem fn_slices_Clone_api_Rat_api_Rat : Tryz.prog.funcs[92]? = some Tryz.f92 := Tryz.func92
def ir_slices_IndexFunc_api_Rat_api_Rat : IFun := ⟨19, [.tmp 4], .seq (.reg [OA 4 (.mv (II 0))]) (.seq (.seq (.reg [MM 6 0, OA 7 (.len false (TT 6)), OA 8 (.mv (II 0))]) (.block 0 (.loop (.seq (.reg [OA 9 (.bin .lss (TT 8) (TT 7))]) (.seq (.cond (TT 9) .skip (.exit 0)) (.seq
  (.block 1 (.seq (.reg [MM 10 8, MM 5 10]) (.seq (.reg [MM 11 1, MM 12 0, MM 13 5, OA 14 (.iaddr 3 (TT 12) (TT 13)), LL 15 3 14, OA 16 (.callv (TT 11) [TT 15])]) (.cond (TT 16) (.seq (.reg [MM 17 5, MM 4 17]) .ret) .skip))))
  (.reg [OA 18 (.bin .add (TT 8) (II 1)), MM 8 18]))))))) (.seq (.reg [OA 4 (.mv (II (-1)))]) .ret))⟩
theorem ok_slices_IndexFunc_api_Rat_api_Rat : compF eff Tryz.prog Tryz.f142 = some ir_slices_IndexFunc_api_Rat_api_Rat := by kernel_rfl
theorem fn_slices_IndexFunc_api_Rat_api_Rat : Tryz.prog.funcs[142]? = some Tryz.f142 := Tryz.func142
def ir_slices_IndexFunc_api_Frame_api_Frame : IFun := ⟨19, [.tmp 4], .seq (.reg [OA 4 (.mv (II 0))]) (.seq (.seq (.reg [MM 6 0, OA 7 (.len false (TT 6)), OA 8 (.mv (II 0))]) (.block 0 (.loop (.seq (.reg [OA 9 (.bin .lss (TT 8) (TT 7))]) (.seq (.cond (TT 9) .skip (.exit 0)) (.seq
  (.block 1 (.seq (.reg [MM 10 8, MM 5 10]) (.seq (.reg [MM 11 1, MM 12 0, MM 13 5, OA 14 (.iaddr 10 (TT 12) (TT 13)), LL 15 10 14, OA 16 (.callv (TT 11) [TT 15])]) (.cond (TT 16) (.seq (.reg [MM 17 5, MM 4 17]) .ret) .skip))))
  (.reg [OA 18 (.bin .add (TT 8) (II 1)), MM 8 18]))))))) (.seq (.reg [OA 4 (.mv (II (-1)))]) .ret))⟩
theorem ok_slices_IndexFunc_api_Frame_api_Frame : compF eff Tryz.prog Tryz.f157 = some ir_slices_IndexFunc_api_Frame_api_Frame := by kernel_rfl
theorem fn_slices_IndexFunc_api_Frame_api_Frame : Tryz.prog.funcs[157]? = some Tryz.f157 := Tryz.func157
def ir_slices_IndexFunc_api_Vec_api_Vec : IFun := ⟨19, [.tmp 4], .seq (.reg [OA 4 (.mv (II 0))]) (.seq (.seq (.reg [MM 6 0, OA 7 (.len false (TT 6)), OA 8 (.mv (II 0))]) (.block 0 (.loop (.seq (.reg [OA 9 (.bin .lss (TT 8) (TT 7))]) (.seq (.cond (TT 9) .skip (.exit 0)) (.seq
  (.block 1 (.seq (.reg [MM 10 8, MM 5 10]) (.seq (.reg [MM 11 1, MM 12 0, MM 13 5, OA 14 (.iaddr 6 (TT 12) (TT 13)), LL 15 6 14, OA 16 (.callv (TT 11) [TT 15])]) (.cond (TT 16) (.seq (.reg [MM 17 5, MM 4 17]) .ret) .skip))))
  (.reg [OA 18 (.bin .add (TT 8) (II 1)), MM 8 18]))))))) (.seq (.reg [OA 4 (.mv (II (-1)))]) .ret))⟩
theorem ok_slices_IndexFunc_api_Vec_api_Vec : compF eff Tryz.prog Tryz.f158 = some ir_slices_IndexFunc_api_Vec_api_Vec := by kernel_rfl
theorem fn_slices_IndexFunc_api_Vec_api_Vec : Tryz.prog.funcs[158]? = some Tryz.f158 := Tryz.func158
def ir_slices_Reverse_byte_byte : IFun := ⟨28, [], .seq (.reg [MM 4 0, OA 5 (.len false (TT 4)), OA 6 (.bin .sub (TT 5) (II 1)), OA 2 (.mv (II 0)), MM 3 6]) (.block 0 (.loop (.seq (.seq (.reg [MM 7 2, MM 8 3, OA 9 (.bin .lss (TT 7) (TT 8))]) (.cond (TT 9) .skip (.exit
  0))) (.seq (.block 1 (.regd [.q, .q, .l, .l, .q, .q, .q, .q, .q, .q, .q, .q, .q, .e none false, .q, .e none false] [MM 14 0, MM 15 2, MM 16 0, MM 17 3, MM 18 0, MM 19 3, OA 20 (.iaddr 1 (TT 18) (TT 19)), VV 21 20, MM 22 0, MM 23
  2, OA 24 (.iaddr 1 (TT 22) (TT 23)), VV 25 24, OA 26 (.iaddr 1 (TT 14) (TT 15)), OB (.store 1 (TT 26) (TT 21)), OA 27 (.iaddr 1 (TT 16) (TT 17)), OB (.store 1 (TT 27) (TT 25))])) (.reg [MM 10 2, OA 11 (.bin .add (TT 10) (II 1)),
  MM 12 3, OA 13 (.bin .sub (TT 12) (II 1)), MM 2 11, MM 3 13])))))⟩
theorem ok_slices_Reverse_byte_byte : compF eff Tryz.prog Tryz.f169 = some ir_slices_Reverse_byte_byte := by kernel_rfl
theorem fn_slices_Reverse_byte_byte : Tryz.prog.funcs[169]? = some Tryz.f169 := Tryz.func169
end Go.Proofs.YtfadociodcmhfaaGreatDoor
namespace Go.Proofs.YtfadociodcmhfaaGreatDoor
set_option linter.all false
open Go Go.RowKit Eng
set_option maxRecDepth 10000
set_option maxHeartbeats 4000000
def letterB (b : UInt8) : Bool := decide (97 ≤ b.toNat) && decide (b.toNat ≤ 122)
theorem nameB_bad {s : List UInt8} {i : Nat} (hi : i < s.length) (h : letterB s[i] = false) : nameB s = false := by
  unfold nameB
  have : (s.all fun b => decide (97 ≤ b.toNat) && decide (b.toNat ≤ 122)) = false := by
    rw [List.all_eq_false]
    exact ⟨s[i], List.getElem_mem hi, by unfold letterB at h; rw [h]; decide⟩
  rw [this]
  rfl
theorem nameB_ok {s : List UInt8} (h : ∀ j (h : j < s.length), letterB s[j] = true) : nameB s = (decide (1 ≤ s.length) && decide (s.length ≤ 12)) := by
  unfold nameB
  have : (s.all fun b => decide (97 ≤ b.toNat) && decide (b.toNat ≤ 122)) = true := by
    rw [List.all_eq_true]
    intro x hx
    obtain ⟨j, hj, rfl⟩ := List.mem_iff_getElem.1 hx
    exact h j hj
  rw [this, Bool.true_and]
theorem f_isName (s : List UInt8) (hs : s.length ≤ 1099511627776) : FSpec Tryz.prog 150 [sb s] (.v (.bool (nameB s))) := by
  refine FSpec.of fn_arm_IsName ok_arm_IsName (by exact Nat.le_of_ble_eq_true rfl) fun w O => ?_
  simp only [ir_arm_IsName, frOf, TT, II, OA, OB, OC, MM, LL, VV, FF, MG, LG, VG, FG, sb]
  (repeat first | refine uA ?_ | (apply S.exit; exact rfl) | ((with_reducible refine And.intro ?_ ?_); focus first | omega | trivial | exact id | (intros; simp_all <;> omega)) | simp (disch := omega) only [go_sem, Nat.reduceBEq, Nat.reduceAdd, Nat.reduceLeDiff, Int.reduceToNat, Int.reducePow, ww, bs_size])
  refine S.loop (X := Nat) (fun i => ⟨[(0, sb s), (5, ints s.length), (6, ints i)], []⟩) (fun i => i ≤ s.length ∧ ∀ j (h : j < s.length), j < i → letterB s[j] = true) (fun i => s.length - i) 0 ⟨Nat.zero_le _, fun _ _ h => absurd h (Nat.not_lt_zero _)⟩ (by (repeat first | refine uA ?_ | (refine ⟨?_, ?_⟩; focus first | rfl | trivial | (simp [slot]; done)) | rfl | trivial | simp)) ?_
  rintro i ⟨hi, hg⟩
  simp only [sb, ints]
  (repeat first | refine uA ?_ | (apply S.exit; exact rfl) | ((with_reducible refine And.intro ?_ ?_); focus first | omega | trivial | exact id | (intros; simp_all <;> omega)) | simp (disch := omega) only [go_sem, Nat.reduceBEq, Nat.reduceAdd, Nat.reduceLeDiff, Int.reduceToNat, Int.reducePow, ww])
  (refine uJ rfl (fun hc => ?_) fun hc => ?_)
  · have hi' : i < s.length := by omega
    have hgi : s.getD i 0 = s[i] := by rw [List.getD_eq_getElem?_getD, List.getElem?_eq_getElem hi']; rfl
    (repeat first | refine uA ?_ | (apply S.exit; exact rfl) | ((with_reducible refine And.intro ?_ ?_); focus first | omega | trivial | exact id | (intros; simp_all <;> omega)) | simp (disch := omega) only [go_sem, Nat.reduceBEq, Nat.reduceAdd, Nat.reduceLeDiff, Int.reduceToNat, Int.reducePow, ww, bs_size, list_bs, hgi, Int.toNat_natCast])
    refine S.cond rfl (fun hc => ?_) (fun hc => ?_)
    · have hl : letterB s[i] = false := by
        unfold letterB
        simp only [Bool.or_eq_true, decide_eq_true_eq] at hc
        rw [Bool.and_eq_false_iff, decide_eq_false_iff_not, decide_eq_false_iff_not]
        omega
      rw [nameB_bad hi' hl]
      (repeat first | refine uA ?_ | (apply S.exit; exact rfl) | ((with_reducible refine And.intro ?_ ?_); focus first | omega | trivial | exact id | (intros; simp_all <;> omega)) | simp (disch := omega) only [go_sem, Nat.reduceBEq, Nat.reduceAdd, Nat.reduceLeDiff, Int.reduceToNat, Int.reducePow, ww])
      exact S.done (RetOK.out rfl (Imp.refl rfl) rfl)
    · have hl : letterB s[i] = true := by
        unfold letterB
        simp only [Bool.or_eq_false_iff, decide_eq_false_iff_not] at hc
        rw [Bool.and_eq_true, decide_eq_true_eq, decide_eq_true_eq]
        omega
      (repeat first | refine uA ?_ | (apply S.exit; exact rfl) | ((with_reducible refine And.intro ?_ ?_); focus first | omega | trivial | exact id | (intros; simp_all <;> omega)) | simp (disch := omega) only [go_sem, Nat.reduceBEq, Nat.reduceAdd, Nat.reduceLeDiff, Int.reduceToNat, Int.reducePow, ww])
      refine S.next (i + 1) ⟨by omega, fun j h hj => ?_⟩ (by omega) (by (repeat first | refine uA ?_ | (refine ⟨?_, ?_⟩; focus first | rfl | trivial | (simp [slot]; done)) | rfl | trivial | simp))
      rcases Nat.lt_or_ge j i with h1 | h1
      · exact hg j h h1
      · have : j = i := by omega
        subst this
        exact hl
  · have hi' : i = s.length := by omega
    subst hi'
    have e1 : decide ((1 : Int) ≤ (s.length : Int)) = decide (1 ≤ s.length) := decide_eq_decide.2 (by omega)
    have e2 : decide ((s.length : Int) ≤ 12) = decide (s.length ≤ 12) := decide_eq_decide.2 (by omega)
    rw [nameB_ok fun j h => hg j h h]
    (repeat first | refine uA ?_ | (apply S.exit; exact rfl) | ((with_reducible refine And.intro ?_ ?_); focus first | omega | trivial | exact id | (intros; simp_all <;> omega)) | simp (disch := omega) only [go_sem, Nat.reduceBEq, Nat.reduceAdd, Nat.reduceLeDiff, Int.reduceToNat, Int.reducePow, ww, bs_size, e1, e2])
    (try simp only [e1, e2, go_sem])
    exact S.done (RetOK.out rfl (Imp.refl rfl) rfl)
theorem f_wname (s : List UInt8) (hs : s.length ≤ 1099511627776) : FSpec Tryz.prog 29 [sb s] (.v (.bool (nameB s))) := by
  refine FSpec.of fn_works_Name ok_works_Name (by exact Nat.le_of_ble_eq_true rfl) fun w O => ?_
  simp only [ir_works_Name, frOf, TT, II, OA, OB, OC, MM, LL, VV, FF, MG, LG, VG, FG, sb]
  (repeat first | refine uA ?_ | (apply S.exit; exact rfl) | ((with_reducible refine And.intro ?_ ?_); focus first | omega | trivial | exact id | (intros; simp_all <;> omega)) | simp (disch := omega) only [go_sem, Nat.reduceBEq, Nat.reduceAdd, Nat.reduceLeDiff, Int.reduceToNat, Int.reducePow, ww, bs_size])
  refine S.loop (X := Nat) (fun i => ⟨[(0, sb s), (5, ints s.length), (6, ints i)], []⟩) (fun i => i ≤ s.length ∧ ∀ j (h : j < s.length), j < i → letterB s[j] = true) (fun i => s.length - i) 0 ⟨Nat.zero_le _, fun _ _ h => absurd h (Nat.not_lt_zero _)⟩ (by (repeat first | refine uA ?_ | (refine ⟨?_, ?_⟩; focus first | rfl | trivial | (simp [slot]; done)) | rfl | trivial | simp)) ?_
  rintro i ⟨hi, hg⟩
  simp only [sb, ints]
  (repeat first | refine uA ?_ | (apply S.exit; exact rfl) | ((with_reducible refine And.intro ?_ ?_); focus first | omega | trivial | exact id | (intros; simp_all <;> omega)) | simp (disch := omega) only [go_sem, Nat.reduceBEq, Nat.reduceAdd, Nat.reduceLeDiff, Int.reduceToNat, Int.reducePow, ww])
  (refine uJ rfl (fun hc => ?_) fun hc => ?_)
  · have hi' : i < s.length := by omega
    have hgi : s.getD i 0 = s[i] := by rw [List.getD_eq_getElem?_getD, List.getElem?_eq_getElem hi']; rfl
    (repeat first | refine uA ?_ | (apply S.exit; exact rfl) | ((with_reducible refine And.intro ?_ ?_); focus first | omega | trivial | exact id | (intros; simp_all <;> omega)) | simp (disch := omega) only [go_sem, Nat.reduceBEq, Nat.reduceAdd, Nat.reduceLeDiff, Int.reduceToNat, Int.reducePow, ww, bs_size, list_bs, hgi, Int.toNat_natCast])
    refine S.cond rfl (fun hc => ?_) (fun hc => ?_)
    · have hl : letterB s[i] = false := by
        unfold letterB
        simp only [Bool.or_eq_true, decide_eq_true_eq] at hc
        rw [Bool.and_eq_false_iff, decide_eq_false_iff_not, decide_eq_false_iff_not]
        omega
      rw [nameB_bad hi' hl]
      (repeat first | refine uA ?_ | (apply S.exit; exact rfl) | ((with_reducible refine And.intro ?_ ?_); focus first | omega | trivial | exact id | (intros; simp_all <;> omega)) | simp (disch := omega) only [go_sem, Nat.reduceBEq, Nat.reduceAdd, Nat.reduceLeDiff, Int.reduceToNat, Int.reducePow, ww])
      exact S.done (RetOK.out rfl (Imp.refl rfl) rfl)
    · have hl : letterB s[i] = true := by
        unfold letterB
        simp only [Bool.or_eq_false_iff, decide_eq_false_iff_not] at hc
        rw [Bool.and_eq_true, decide_eq_true_eq, decide_eq_true_eq]
        omega
      (repeat first | refine uA ?_ | (apply S.exit; exact rfl) | ((with_reducible refine And.intro ?_ ?_); focus first | omega | trivial | exact id | (intros; simp_all <;> omega)) | simp (disch := omega) only [go_sem, Nat.reduceBEq, Nat.reduceAdd, Nat.reduceLeDiff, Int.reduceToNat, Int.reducePow, ww])
      refine S.next (i + 1) ⟨by omega, fun j h hj => ?_⟩ (by omega) (by (repeat first | refine uA ?_ | (refine ⟨?_, ?_⟩; focus first | rfl | trivial | (simp [slot]; done)) | rfl | trivial | simp))
      rcases Nat.lt_or_ge j i with h1 | h1
      · exact hg j h h1
      · have : j = i := by omega
        subst this
        exact hl
  · have hi' : i = s.length := by omega
    subst hi'
    have e1 : decide ((1 : Int) ≤ (s.length : Int)) = decide (1 ≤ s.length) := decide_eq_decide.2 (by omega)
    have e2 : decide ((s.length : Int) ≤ 12) = decide (s.length ≤ 12) := decide_eq_decide.2 (by omega)
    rw [nameB_ok fun j h => hg j h h]
    (repeat first | refine uA ?_ | (apply S.exit; exact rfl) | ((with_reducible refine And.intro ?_ ?_); focus first | omega | trivial | exact id | (intros; simp_all <;> omega)) | simp (disch := omega) only [go_sem, Nat.reduceBEq, Nat.reduceAdd, Nat.reduceLeDiff, Int.reduceToNat, Int.reducePow, ww, bs_size, e1, e2])
    (try simp only [e1, e2, go_sem])
    exact S.done (RetOK.out rfl (Imp.refl rfl) rfl)
theorem f_asmall (l : List Nm.Rt) (hl : Rbs 17179869184 l) : FZ 151 [rts l] (.v (.bool (l.all smallB))) := by
  refine FSpecW.of fn_arm_small ok_arm_small (by exact Nat.le_of_ble_eq_true rfl) fun w O hw => ?_
  obtain ⟨hn, hb⟩ := hl
  simp only [ir_arm_small, frOf, TT, II, OA, OB, OC, MM, LL, VV, FF, MG, LG, VG, FG, rts]
  (repeat first | refine uA ?_ | (apply S.exit; exact rfl) | ((with_reducible refine And.intro ?_ ?_); focus first | omega | trivial | exact id | (intros; simp_all <;> omega)) | simp (disch := omega) only [go_sem, Nat.reduceBEq, Nat.reduceAdd, Nat.reduceLeDiff, Int.reduceToNat, Int.reducePow, ww, List.length_map])
  refine S.loop (X := Nat) (fun i => ⟨[(5, rts l), (6, ints l.length), (7, ints i)], []⟩) (fun i => i ≤ l.length ∧ l.all smallB = (l.drop i).all smallB) (fun i => l.length - i) 0 ⟨Nat.zero_le _, rfl⟩ (by (repeat first | refine uA ?_ | (refine ⟨?_, ?_⟩; focus first | rfl | trivial | (simp [slot]; done)) | rfl | trivial | simp)) ?_
  rintro i ⟨hi, hg⟩
  simp only [rts, ints]
  (repeat first | refine uA ?_ | (apply S.exit; exact rfl) | ((with_reducible refine And.intro ?_ ?_); focus first | omega | trivial | exact id | (intros; simp_all <;> omega)) | simp (disch := omega) only [go_sem, Nat.reduceBEq, Nat.reduceAdd, Nat.reduceLeDiff, Int.reduceToNat, Int.reducePow, ww])
  (refine uJ rfl (fun hc => ?_) fun hc => ?_)
  · have hi' : i < l.length := by omega
    have hgi := List.getElem?_eq_getElem hi'
    generalize l[i] = x at hgi
    have hd := drop_at hgi
    have hs := f_small x (hb x (List.mem_of_getElem? hgi))
    simp only [rc] at hs
    simp only [sb] at hs
    (repeat first | refine uA ?_ | (apply S.exit; exact rfl) | ((with_reducible refine And.intro ?_ ?_); focus first | omega | trivial | exact id | (intros; simp_all <;> omega)) | simp (disch := omega) only [go_sem, Nat.reduceBEq, Nat.reduceAdd, Nat.reduceLeDiff, Int.reduceToNat, Int.reducePow, ww, hgi, Option.map_some, List.length_map, rcs, sb] | (refine uD hs ?_ ?_ ?_; exact tz hw; exact rfl))
    refine S.cond rfl (fun hc => ?_) (fun hc => ?_)
    · have : l.all smallB = false := by
        rw [hg, hd, List.all_cons]
        simp only [Bool.not_eq_true'] at hc
        rw [hc]; rfl
      rw [this]
      (repeat first | refine uA ?_ | (apply S.exit; exact rfl) | ((with_reducible refine And.intro ?_ ?_); focus first | omega | trivial | exact id | (intros; simp_all <;> omega)) | simp (disch := omega) only [go_sem, Nat.reduceBEq, Nat.reduceAdd, Nat.reduceLeDiff, Int.reduceToNat, Int.reducePow, ww])
      exact S.done (RetOK.out rfl (Imp.refl rfl) rfl)
    · (repeat first | refine uA ?_ | (apply S.exit; exact rfl) | ((with_reducible refine And.intro ?_ ?_); focus first | omega | trivial | exact id | (intros; simp_all <;> omega)) | simp (disch := omega) only [go_sem, Nat.reduceBEq, Nat.reduceAdd, Nat.reduceLeDiff, Int.reduceToNat, Int.reducePow, ww])
      refine S.next (i + 1) ⟨by omega, ?_⟩ (by omega) (by (repeat first | refine uA ?_ | (refine ⟨?_, ?_⟩; focus first | rfl | trivial | (simp [slot]; done)) | rfl | trivial | simp))
      rw [hg, hd, List.all_cons]
      simp only [Bool.not_eq_false'] at hc
      rw [hc]; rfl
  · have : l.all smallB = true := by rw [hg, List.drop_eq_nil_of_le (by omega)]; rfl
    rw [this]
    (repeat first | refine uA ?_ | (apply S.exit; exact rfl) | ((with_reducible refine And.intro ?_ ?_); focus first | omega | trivial | exact id | (intros; simp_all <;> omega)) | simp (disch := omega) only [go_sem, Nat.reduceBEq, Nat.reduceAdd, Nat.reduceLeDiff, Int.reduceToNat, Int.reducePow, ww])
    exact S.done (RetOK.out rfl (Imp.refl rfl) rfl)
end Go.Proofs.YtfadociodcmhfaaGreatDoor
namespace Go.Proofs.YtfadociodcmhfaaGreatDoor
set_option linter.all false
open Go Go.RowKit Eng
set_option maxRecDepth 10000
set_option maxHeartbeats 4000000
namespace Eng
def frS (fr : List (Nat × C)) : List (Nat × C) → Prop
  | [] => True
  | (t, s) :: r => (s = .junk ∨ slot fr t = s) ∧ frS fr r
theorem frS_slot {fr : List (Nat × C)} : ∀ {fr' : List (Nat × C)}, frS fr fr' → ∀ t, slot fr' t = .junk ∨ slot fr t = slot fr' t
  | [], _, t => .inl rfl
  | (u, s) :: r, h, t => by
    simp only [slot]
    cases hb : (u == t) with
    | true =>
      have : u = t := by simpa using hb
      subst this
      exact h.1
    | false => exact frS_slot h.2 t
theorem Ent.fr {E : Ctx} {fr fr' : List (Nat × C)} {rs rs' : List Res} (h : rs = rs') (hf : frS fr fr') : Ent E ⟨fr, rs⟩ ⟨fr', rs'⟩ := by
  subst h
  intro wf ν a w hG
  refine ⟨ν, hG.dfr, hG.size, fun t => ?_, hG.rg, hG.frm, hG.nu⟩
  rcases frS_slot hf t with e | e
  · rw [e]; simp only [Den]
  · rw [← e]; exact hG.fr t
end Eng
def idxI {α : Type} (p : α → Bool) (l : List α) : Int := match l.findIdx? p with | some i => i | none => -1
theorem idxI_hit {α : Type} {p : α → Bool} {l : List α} {i : Nat} {x : α} (h : l[i]? = some x) (hp : p x = true) (hm : ∀ j, j < i → ∀ y, l[j]? = some y → p y = false) : idxI p l = i := by
  obtain ⟨hi, rfl⟩ := List.getElem?_eq_some_iff.1 h
  have : l.findIdx? p = some i := by
    rw [List.findIdx?_eq_some_iff_getElem]
    refine ⟨hi, hp, fun j hj => ?_⟩
    simp [hm j hj l[j] (List.getElem?_eq_getElem _)]
  unfold idxI
  rw [this]
theorem idxI_miss {α : Type} {p : α → Bool} {l : List α} (hm : ∀ j, j < l.length → ∀ y, l[j]? = some y → p y = false) : idxI p l = -1 := by
  have : l.findIdx? p = none := by
    rw [List.findIdx?_eq_none_iff]
    intro x hx
    obtain ⟨j, hj⟩ := List.mem_iff_getElem?.1 hx
    exact hm j (List.getElem?_eq_some_iff.1 hj).1 x hj
  unfold idxI
  rw [this]
theorem idxI_any {α : Type} (p : α → Bool) (l : List α) : decide (0 ≤ idxI p l) = l.any p := by
  unfold idxI
  cases h : l.findIdx? p with
  | none =>
    rw [List.findIdx?_eq_none_iff] at h
    have : l.any p = false := by rw [List.any_eq_false]; intro x hx; simp [h x hx]
    rw [this]; rfl
  | some i =>
    rw [List.findIdx?_eq_some_iff_getElem] at h
    obtain ⟨h1, h2, _⟩ := h
    have : l.any p = true := by rw [List.any_eq_true]; exact ⟨_, List.getElem_mem h1, h2⟩
    rw [this]
    exact decide_eq_true (show (0 : Int) ≤ (i : Int) by omega)
theorem f_idxVec (g : Nat) (hcal : callable Tryz.prog g = true) (p : Vt → Bool) (l : List Vt) (hn : l.length ≤ 1099511627776) (hg : ∀ x ∈ l, FZ g [x.c] (.v (.bool (p x)))) :
    FZ 158 [vts l, .v (.func (.func g) #[] #[])] (ints (idxI p l)) := by
  refine FSpecW.of fn_slices_IndexFunc_api_Vec_api_Vec ok_slices_IndexFunc_api_Vec_api_Vec (by exact Nat.le_of_ble_eq_true rfl) fun w O hw => ?_
  simp only [ir_slices_IndexFunc_api_Vec_api_Vec, frOf, TT, II, OA, OB, OC, MM, LL, VV, FF, MG, LG, VG, FG, vts]
  (repeat first | refine uA ?_ | (apply S.exit; exact rfl) | ((with_reducible refine And.intro ?_ ?_); focus first | omega | trivial | exact id | (intros; simp_all <;> omega)) | simp (disch := omega) only [go_sem, Nat.reduceBEq, Nat.reduceAdd, Nat.reduceLeDiff, Int.reduceToNat, Int.reducePow, ww, List.length_map])
  refine S.loop (X := Nat) (fun i => ⟨[(0, vts l), (1, .v (.func (.func g) #[] #[])), (7, ints l.length), (8, ints i)], []⟩) (fun i => i ≤ l.length ∧ ∀ j, j < i → ∀ x, l[j]? = some x → p x = false) (fun i => l.length - i) 0 ⟨Nat.zero_le _, fun _ h => absurd h (Nat.not_lt_zero _)⟩ (by (repeat first | refine uA ?_ | (refine ⟨?_, ?_⟩; focus first | rfl | trivial | (simp [slot]; done)) | rfl | trivial | simp)) ?_
  rintro i ⟨hi, hm⟩
  simp only [vts, ints]
  (repeat first | refine uA ?_ | (apply S.exit; exact rfl) | ((with_reducible refine And.intro ?_ ?_); focus first | omega | trivial | exact id | (intros; simp_all <;> omega)) | simp (disch := omega) only [go_sem, Nat.reduceBEq, Nat.reduceAdd, Nat.reduceLeDiff, Int.reduceToNat, Int.reducePow, ww])
  (refine uJ rfl (fun hc => ?_) fun hc => ?_)
  · have hi' : i < l.length := by omega
    have hgi := List.getElem?_eq_getElem hi'
    generalize l[i] = x at hgi
    have hs := hg x (List.mem_of_getElem? hgi)
    simp only [Vt.c, Vt.enc, sb] at hs
    (repeat first | refine uA ?_ | (apply S.exit; exact rfl) | ((with_reducible refine And.intro ?_ ?_); focus first | omega | trivial | exact id | (intros; simp_all <;> omega)) | simp (disch := omega) only [go_sem, Nat.reduceBEq, Nat.reduceAdd, Nat.reduceLeDiff, Int.reduceToNat, Int.reducePow, ww, hgi, Option.map_some, List.length_map, Vt.c, Vt.enc, sb, Int.toNat_natCast, hcal] | (refine uD hs ?_ ?_ ?_; exact tz hw; exact rfl))
    refine S.cond rfl (fun hc2 => ?_) (fun hc2 => ?_)
    · rw [idxI_hit hgi hc2 hm]
      (repeat first | refine uA ?_ | (apply S.exit; exact rfl) | ((with_reducible refine And.intro ?_ ?_); focus first | omega | trivial | exact id | (intros; simp_all <;> omega)) | simp (disch := omega) only [go_sem, Nat.reduceBEq, Nat.reduceAdd, Nat.reduceLeDiff, Int.reduceToNat, Int.reducePow, ww])
      exact S.done (RetOK.out rfl (Imp.refl rfl) rfl)
    · (repeat first | refine uA ?_ | (apply S.exit; exact rfl) | ((with_reducible refine And.intro ?_ ?_); focus first | omega | trivial | exact id | (intros; simp_all <;> omega)) | simp (disch := omega) only [go_sem, Nat.reduceBEq, Nat.reduceAdd, Nat.reduceLeDiff, Int.reduceToNat, Int.reducePow, ww])
      refine S.next (i + 1) ⟨by omega, fun j hj y hy => ?_⟩ (by omega) (by (repeat first | refine uA ?_ | (refine ⟨?_, ?_⟩; focus first | rfl | trivial | (simp [slot]; done)) | rfl | trivial | simp))
      rcases Nat.lt_or_ge j i with h1 | h1
      · exact hm j h1 y hy
      · have : j = i := by omega
        subst this
        rw [hgi] at hy
        cases hy
        exact hc2
  · have hi' : i = l.length := by omega
    subst hi'
    rw [idxI_miss hm]
    (repeat first | refine uA ?_ | (apply S.exit; exact rfl) | ((with_reducible refine And.intro ?_ ?_); focus first | omega | trivial | exact id | (intros; simp_all <;> omega)) | simp (disch := omega) only [go_sem, Nat.reduceBEq, Nat.reduceAdd, Nat.reduceLeDiff, Int.reduceToNat, Int.reducePow, ww])
    exact S.done (RetOK.out rfl (Imp.refl rfl) rfl)
theorem f_hasVec (g : Nat) (hcal : callable Tryz.prog g = true) (p : Vt → Bool) (l : List Vt) (hn : l.length ≤ 1099511627776) (hg : ∀ x ∈ l, FZ g [x.c] (.v (.bool (p x)))) :
    FZ 74 [vts l, .v (.func (.func g) #[] #[])] (.v (.bool (l.any p))) := by
  refine FSpecW.of fn_slices_ContainsFunc_api_Vec_api_Vec ok_slices_ContainsFunc_api_Vec_api_Vec (by exact Nat.le_of_ble_eq_true rfl) fun w O hw => ?_
  have h := f_idxVec g hcal p l hn hg
  have e := idxI_any p l
  generalize idxI p l = n at *
  simp only [ir_slices_ContainsFunc_api_Vec_api_Vec, frOf, TT, II, OA, OB, OC, MM, LL, VV, FF, MG, LG, VG, FG]
  simp only [vts, ints] at *
  (repeat first | refine uA ?_ | (apply S.exit; exact rfl) | ((with_reducible refine And.intro ?_ ?_); focus first | omega | trivial | exact id | (intros; simp_all <;> omega)) | simp (disch := omega) only [go_sem, Nat.reduceBEq, Nat.reduceAdd, Nat.reduceLeDiff, Int.reduceToNat, Int.reducePow, ww] | (refine uD h ?_ ?_ ?_; exact tz hw; exact rfl))
  rw [e]
  exact S.done (RetOK.out rfl (Imp.refl rfl) rfl)
theorem f_idxRat (g : Nat) (hcal : callable Tryz.prog g = true) (p : Nm.Rt → Bool) (l : List Nm.Rt) (hn : l.length ≤ 1099511627776) (hg : ∀ x ∈ l, FZ g [rc x] (.v (.bool (p x)))) :
    FZ 142 [rts l, .v (.func (.func g) #[] #[])] (ints (idxI p l)) := by
  refine FSpecW.of fn_slices_IndexFunc_api_Rat_api_Rat ok_slices_IndexFunc_api_Rat_api_Rat (by exact Nat.le_of_ble_eq_true rfl) fun w O hw => ?_
  simp only [ir_slices_IndexFunc_api_Rat_api_Rat, frOf, TT, II, OA, OB, OC, MM, LL, VV, FF, MG, LG, VG, FG, rts]
  (repeat first | refine uA ?_ | (apply S.exit; exact rfl) | ((with_reducible refine And.intro ?_ ?_); focus first | omega | trivial | exact id | (intros; simp_all <;> omega)) | simp (disch := omega) only [go_sem, Nat.reduceBEq, Nat.reduceAdd, Nat.reduceLeDiff, Int.reduceToNat, Int.reducePow, ww, List.length_map])
  refine S.loop (X := Nat) (fun i => ⟨[(0, rts l), (1, .v (.func (.func g) #[] #[])), (7, ints l.length), (8, ints i)], []⟩) (fun i => i ≤ l.length ∧ ∀ j, j < i → ∀ x, l[j]? = some x → p x = false) (fun i => l.length - i) 0 ⟨Nat.zero_le _, fun _ h => absurd h (Nat.not_lt_zero _)⟩ (by (repeat first | refine uA ?_ | (refine ⟨?_, ?_⟩; focus first | rfl | trivial | (simp [slot]; done)) | rfl | trivial | simp)) ?_
  rintro i ⟨hi, hm⟩
  simp only [rts, ints]
  (repeat first | refine uA ?_ | (apply S.exit; exact rfl) | ((with_reducible refine And.intro ?_ ?_); focus first | omega | trivial | exact id | (intros; simp_all <;> omega)) | simp (disch := omega) only [go_sem, Nat.reduceBEq, Nat.reduceAdd, Nat.reduceLeDiff, Int.reduceToNat, Int.reducePow, ww])
  (refine uJ rfl (fun hc => ?_) fun hc => ?_)
  · have hi' : i < l.length := by omega
    have hgi := List.getElem?_eq_getElem hi'
    generalize l[i] = x at hgi
    have hs := hg x (List.mem_of_getElem? hgi)
    simp only [rc, rcs, sb] at hs
    (repeat first | refine uA ?_ | (apply S.exit; exact rfl) | ((with_reducible refine And.intro ?_ ?_); focus first | omega | trivial | exact id | (intros; simp_all <;> omega)) | simp (disch := omega) only [go_sem, Nat.reduceBEq, Nat.reduceAdd, Nat.reduceLeDiff, Int.reduceToNat, Int.reducePow, ww, hgi, Option.map_some, List.length_map, rc, rcs, sb, Int.toNat_natCast, hcal] | (refine uD hs ?_ ?_ ?_; exact tz hw; exact rfl))
    refine S.cond rfl (fun hc2 => ?_) (fun hc2 => ?_)
    · rw [idxI_hit hgi hc2 hm]
      (repeat first | refine uA ?_ | (apply S.exit; exact rfl) | ((with_reducible refine And.intro ?_ ?_); focus first | omega | trivial | exact id | (intros; simp_all <;> omega)) | simp (disch := omega) only [go_sem, Nat.reduceBEq, Nat.reduceAdd, Nat.reduceLeDiff, Int.reduceToNat, Int.reducePow, ww])
      exact S.done (RetOK.out rfl (Imp.refl rfl) rfl)
    · (repeat first | refine uA ?_ | (apply S.exit; exact rfl) | ((with_reducible refine And.intro ?_ ?_); focus first | omega | trivial | exact id | (intros; simp_all <;> omega)) | simp (disch := omega) only [go_sem, Nat.reduceBEq, Nat.reduceAdd, Nat.reduceLeDiff, Int.reduceToNat, Int.reducePow, ww])
      refine S.next (i + 1) ⟨by omega, fun j hj y hy => ?_⟩ (by omega) (by (repeat first | refine uA ?_ | (refine ⟨?_, ?_⟩; focus first | rfl | trivial | (simp [slot]; done)) | rfl | trivial | simp))
      rcases Nat.lt_or_ge j i with h1 | h1
      · exact hm j h1 y hy
      · have : j = i := by omega
        subst this
        rw [hgi] at hy
        cases hy
        exact hc2
  · have hi' : i = l.length := by omega
    subst hi'
    rw [idxI_miss hm]
    (repeat first | refine uA ?_ | (apply S.exit; exact rfl) | ((with_reducible refine And.intro ?_ ?_); focus first | omega | trivial | exact id | (intros; simp_all <;> omega)) | simp (disch := omega) only [go_sem, Nat.reduceBEq, Nat.reduceAdd, Nat.reduceLeDiff, Int.reduceToNat, Int.reducePow, ww])
    exact S.done (RetOK.out rfl (Imp.refl rfl) rfl)
theorem f_hasRat (g : Nat) (hcal : callable Tryz.prog g = true) (p : Nm.Rt → Bool) (l : List Nm.Rt) (hn : l.length ≤ 1099511627776) (hg : ∀ x ∈ l, FZ g [rc x] (.v (.bool (p x)))) :
    FZ 48 [rts l, .v (.func (.func g) #[] #[])] (.v (.bool (l.any p))) := by
  refine FSpecW.of fn_slices_ContainsFunc_api_Rat_api_Rat ok_slices_ContainsFunc_api_Rat_api_Rat (by exact Nat.le_of_ble_eq_true rfl) fun w O hw => ?_
  have h := f_idxRat g hcal p l hn hg
  have e := idxI_any p l
  generalize idxI p l = n at *
  simp only [ir_slices_ContainsFunc_api_Rat_api_Rat, frOf, TT, II, OA, OB, OC, MM, LL, VV, FF, MG, LG, VG, FG]
  simp only [rts, ints] at *
  (repeat first | refine uA ?_ | (apply S.exit; exact rfl) | ((with_reducible refine And.intro ?_ ?_); focus first | omega | trivial | exact id | (intros; simp_all <;> omega)) | simp (disch := omega) only [go_sem, Nat.reduceBEq, Nat.reduceAdd, Nat.reduceLeDiff, Int.reduceToNat, Int.reducePow, ww] | (refine uD h ?_ ?_ ?_; exact tz hw; exact rfl))
  rw [e]
  exact S.done (RetOK.out rfl (Imp.refl rfl) rfl)
theorem f_idxFrame (g : Nat) (hcal : callable Tryz.prog g = true) (p : Fr → Bool) (l : List Fr) (hn : l.length ≤ 1099511627776) (hg : ∀ x ∈ l, FZ g [x.c] (.v (.bool (p x)))) :
    FZ 157 [frs l, .v (.func (.func g) #[] #[])] (ints (idxI p l)) := by
  refine FSpecW.of fn_slices_IndexFunc_api_Frame_api_Frame ok_slices_IndexFunc_api_Frame_api_Frame (by exact Nat.le_of_ble_eq_true rfl) fun w O hw => ?_
  simp only [ir_slices_IndexFunc_api_Frame_api_Frame, frOf, TT, II, OA, OB, OC, MM, LL, VV, FF, MG, LG, VG, FG, frs]
  (repeat first | refine uA ?_ | (apply S.exit; exact rfl) | ((with_reducible refine And.intro ?_ ?_); focus first | omega | trivial | exact id | (intros; simp_all <;> omega)) | simp (disch := omega) only [go_sem, Nat.reduceBEq, Nat.reduceAdd, Nat.reduceLeDiff, Int.reduceToNat, Int.reducePow, ww, List.length_map])
  refine S.loop (X := Nat) (fun i => ⟨[(0, frs l), (1, .v (.func (.func g) #[] #[])), (7, ints l.length), (8, ints i)], []⟩) (fun i => i ≤ l.length ∧ ∀ j, j < i → ∀ x, l[j]? = some x → p x = false) (fun i => l.length - i) 0 ⟨Nat.zero_le _, fun _ h => absurd h (Nat.not_lt_zero _)⟩ (by (repeat first | refine uA ?_ | (refine ⟨?_, ?_⟩; focus first | rfl | trivial | (simp [slot]; done)) | rfl | trivial | simp)) ?_
  rintro i ⟨hi, hm⟩
  simp only [frs, ints]
  (repeat first | refine uA ?_ | (apply S.exit; exact rfl) | ((with_reducible refine And.intro ?_ ?_); focus first | omega | trivial | exact id | (intros; simp_all <;> omega)) | simp (disch := omega) only [go_sem, Nat.reduceBEq, Nat.reduceAdd, Nat.reduceLeDiff, Int.reduceToNat, Int.reducePow, ww])
  (refine uJ rfl (fun hc => ?_) fun hc => ?_)
  · have hi' : i < l.length := by omega
    have hgi := List.getElem?_eq_getElem hi'
    generalize l[i] = x at hgi
    have hs := hg x (List.mem_of_getElem? hgi)
    simp only [Fr.c, Fr.enc, sb] at hs
    (repeat first | refine uA ?_ | (apply S.exit; exact rfl) | ((with_reducible refine And.intro ?_ ?_); focus first | omega | trivial | exact id | (intros; simp_all <;> omega)) | simp (disch := omega) only [go_sem, Nat.reduceBEq, Nat.reduceAdd, Nat.reduceLeDiff, Int.reduceToNat, Int.reducePow, ww, hgi, Option.map_some, List.length_map, Fr.c, Fr.enc, sb, Int.toNat_natCast, hcal] | (refine uD hs ?_ ?_ ?_; exact tz hw; exact rfl))
    refine S.cond rfl (fun hc2 => ?_) (fun hc2 => ?_)
    · rw [idxI_hit hgi hc2 hm]
      (repeat first | refine uA ?_ | (apply S.exit; exact rfl) | ((with_reducible refine And.intro ?_ ?_); focus first | omega | trivial | exact id | (intros; simp_all <;> omega)) | simp (disch := omega) only [go_sem, Nat.reduceBEq, Nat.reduceAdd, Nat.reduceLeDiff, Int.reduceToNat, Int.reducePow, ww])
      exact S.done (RetOK.out rfl (Imp.refl rfl) rfl)
    · (repeat first | refine uA ?_ | (apply S.exit; exact rfl) | ((with_reducible refine And.intro ?_ ?_); focus first | omega | trivial | exact id | (intros; simp_all <;> omega)) | simp (disch := omega) only [go_sem, Nat.reduceBEq, Nat.reduceAdd, Nat.reduceLeDiff, Int.reduceToNat, Int.reducePow, ww])
      refine S.next (i + 1) ⟨by omega, fun j hj y hy => ?_⟩ (by omega) (by (repeat first | refine uA ?_ | (refine ⟨?_, ?_⟩; focus first | rfl | trivial | (simp [slot]; done)) | rfl | trivial | simp))
      rcases Nat.lt_or_ge j i with h1 | h1
      · exact hm j h1 y hy
      · have : j = i := by omega
        subst this
        rw [hgi] at hy
        cases hy
        exact hc2
  · have hi' : i = l.length := by omega
    subst hi'
    rw [idxI_miss hm]
    (repeat first | refine uA ?_ | (apply S.exit; exact rfl) | ((with_reducible refine And.intro ?_ ?_); focus first | omega | trivial | exact id | (intros; simp_all <;> omega)) | simp (disch := omega) only [go_sem, Nat.reduceBEq, Nat.reduceAdd, Nat.reduceLeDiff, Int.reduceToNat, Int.reducePow, ww])
    exact S.done (RetOK.out rfl (Imp.refl rfl) rfl)
theorem f_hasFrame (g : Nat) (hcal : callable Tryz.prog g = true) (p : Fr → Bool) (l : List Fr) (hn : l.length ≤ 1099511627776) (hg : ∀ x ∈ l, FZ g [x.c] (.v (.bool (p x)))) :
    FZ 71 [frs l, .v (.func (.func g) #[] #[])] (.v (.bool (l.any p))) := by
  refine FSpecW.of fn_slices_ContainsFunc_api_Frame_api_Frame ok_slices_ContainsFunc_api_Frame_api_Frame (by exact Nat.le_of_ble_eq_true rfl) fun w O hw => ?_
  have h := f_idxFrame g hcal p l hn hg
  have e := idxI_any p l
  generalize idxI p l = n at *
  simp only [ir_slices_ContainsFunc_api_Frame_api_Frame, frOf, TT, II, OA, OB, OC, MM, LL, VV, FF, MG, LG, VG, FG]
  simp only [frs, ints] at *
  (repeat first | refine uA ?_ | (apply S.exit; exact rfl) | ((with_reducible refine And.intro ?_ ?_); focus first | omega | trivial | exact id | (intros; simp_all <;> omega)) | simp (disch := omega) only [go_sem, Nat.reduceBEq, Nat.reduceAdd, Nat.reduceLeDiff, Int.reduceToNat, Int.reducePow, ww] | (refine uD h ?_ ?_ ?_; exact tz hw; exact rfl))
  rw [e]
  exact S.done (RetOK.out rfl (Imp.refl rfl) rfl)
end Go.Proofs.YtfadociodcmhfaaGreatDoor
namespace Go.Proofs.YtfadociodcmhfaaGreatDoor
set_option linter.all false
open Go Go.RowKit Eng
set_option maxRecDepth 10000
set_option maxHeartbeats 8000000
theorem all_five {α : Type} (p : α → Bool) (a b c d e : α) : [a, b, c, d, e].all p = (p a && p b && p c && p d && p e) := by simp [Bool.and_assoc]
theorem all_three {α : Type} (p : α → Bool) (a b c : α) : [a, b, c].all p = (p a && p b && p c) := by simp [Bool.and_assoc]
theorem all_two {α : Type} (p : α → Bool) (a b : α) : [a, b].all p = (p a && p b) := by simp
theorem Rbs.five {k : Nat} {a b c d e : Nm.Rt} (h : 5 ≤ k) (h1 : Rb k a) (h2 : Rb k b) (h3 : Rb k c) (h4 : Rb k d) (h5 : Rb k e) : Rbs k [a, b, c, d, e] := ⟨h, fun x hx => by simp at hx; rcases hx with rfl | rfl | rfl | rfl | rfl <;> assumption⟩
theorem Rbs.three {k : Nat} {a b c : Nm.Rt} (h : 3 ≤ k) (h1 : Rb k a) (h2 : Rb k b) (h3 : Rb k c) : Rbs k [a, b, c] := ⟨h, fun x hx => by simp at hx; rcases hx with rfl | rfl | rfl <;> assumption⟩
theorem Rbs.two {k : Nat} {a b : Nm.Rt} (h : 2 ≤ k) (h1 : Rb k a) (h2 : Rb k b) : Rbs k [a, b] := ⟨h, fun x hx => by simp at hx; rcases hx with rfl | rfl <;> assumption⟩
theorem f_linkE (l : Lk) (hl : Lb 1073741824 l) : FZ 152 [l.c] (ints (linkE l)) := by
  refine FSpecW.of fn_arm_check ok_arm_check (by exact Nat.le_of_ble_eq_true rfl) fun w O hw => ?_
  obtain ⟨length, low, high, speed, brake, shape⟩ := l
  obtain ⟨b1, b2, b3, b4, b5, b6⟩ := hl
  simp only at b1 b2 b3 b4 b5 b6
  have c1 := b1.mono (m := 17179869184) (by decide)
  have c2 := b2.mono (m := 17179869184) (by decide)
  have c3 := b3.mono (m := 17179869184) (by decide)
  have c4 := b4.mono (m := 17179869184) (by decide)
  have c5 := b5.mono (m := 17179869184) (by decide)
  have hsm := f_asmall _ (Rbs.five (by decide) c1 c2 c3 c4 c5)
  rw [all_five] at hsm
  have hs1 := f_rsign length c1
  have hcm := f_rcmp low high c2 c3
  have hs2 := f_rsign speed c4
  have hs3 := f_rsign brake c5
  have hp := f_polyCheck shape b6
  have hv := fun (v : Vt) (h : v ∈ shape) => f_asmall _ (Rbs.two (by decide) ((b6.2 v h).1.mono (m := 17179869184) (by decide)) ((b6.2 v h).2.mono (m := 17179869184) (by decide)))
  have hn := b6.1
  unfold linkE
  simp only
  generalize (smallB length && smallB low && smallB high && smallB speed && smallB brake) = q at *
  generalize signQ (Nm.fitQ length) = n1 at *
  generalize Nm.cmpQ (Nm.fitQ low) (Nm.fitQ high) = n2 at *
  generalize signQ (Nm.fitQ speed) = n3 at *
  generalize signQ (Nm.fitQ brake) = n4 at *
  generalize polyE shape 8 = n5 at *
  simp only [ir_arm_check, frOf, TT, II, OA, OB, OC, MM, LL, VV, FF, MG, LG, VG, FG]
  simp only [Lk.c, Lk.enc, rc, rts, rcs, vts, sb, ints, List.map_cons, List.map_nil] at *
  (repeat first | refine uG hs1 ?_ | refine uG hcm ?_ | refine uG hsm ?_ | refine uA ?_ | (apply S.exit; exact rfl) | ((with_reducible refine And.intro ?_ ?_); focus first | omega | trivial | exact id | (intros; simp_all <;> omega)) | simp (disch := omega) only [go_sem, Nat.reduceBEq, Nat.reduceAdd, Nat.reduceLeDiff, Int.reduceToNat, Int.reducePow, ww] | (refine uD hs1 ?_ ?_ ?_; exact tz hw; exact rfl) | (refine uD hcm ?_ ?_ ?_; exact tz hw; exact rfl) | (refine uE hsm ?_ ?_ ?_ ?_; exact tz hw; exact rfl; focus (repeat' first | exact ImpL.nil | exact Imp.refl rfl | exact Imp.frz rfl rfl rfl | (refine Imp.frzw rfl rfl ?_ ?_; (focus ((try simp only [List.length_append]); omega)); (focus first | rfl | assumption)) | refine ImpL.cons ?_ ?_); done))
  refine S.cond rfl (fun hc => ?_) (fun hc => ?_)
  · rw [if_pos (by simp only [Bool.or_eq_true, Bool.not_eq_true', decide_eq_true_eq] at hc; rcases hc with (hc | hc) | hc <;> simp [hc])]
    (repeat first | refine uA ?_ | (apply S.exit; exact rfl) | ((with_reducible refine And.intro ?_ ?_); focus first | omega | trivial | exact id | (intros; simp_all <;> omega)) | simp (disch := omega) only [go_sem, Nat.reduceBEq, Nat.reduceAdd, Nat.reduceLeDiff, Int.reduceToNat, Int.reducePow, ww])
    exact S.done (RetOK.out rfl (Imp.refl rfl) rfl)
  rw [if_neg (by simp only [Bool.or_eq_false_iff, Bool.not_eq_false', decide_eq_false_iff_not] at hc; simp [hc])]
  (repeat first | refine uG hs2 ?_ | refine uG hs3 ?_ | refine uA ?_ | (apply S.exit; exact rfl) | ((with_reducible refine And.intro ?_ ?_); focus first | omega | trivial | exact id | (intros; simp_all <;> omega)) | simp (disch := omega) only [go_sem, Nat.reduceBEq, Nat.reduceAdd, Nat.reduceLeDiff, Int.reduceToNat, Int.reducePow, ww] | (refine uD hs2 ?_ ?_ ?_; exact tz hw; exact rfl) | (refine uD hs3 ?_ ?_ ?_; exact tz hw; exact rfl))
  refine S.cond rfl (fun hc => ?_) (fun hc => ?_)
  · rw [if_pos (by simp only [Bool.or_eq_true, decide_eq_true_eq] at hc; exact hc)]
    (repeat first | refine uA ?_ | (apply S.exit; exact rfl) | ((with_reducible refine And.intro ?_ ?_); focus first | omega | trivial | exact id | (intros; simp_all <;> omega)) | simp (disch := omega) only [go_sem, Nat.reduceBEq, Nat.reduceAdd, Nat.reduceLeDiff, Int.reduceToNat, Int.reducePow, ww])
    exact S.done (RetOK.out rfl (Imp.refl rfl) rfl)
  rw [if_neg (by simp only [Bool.or_eq_false_iff, decide_eq_false_iff_not] at hc; simp [hc])]
  (repeat first | refine uG hp ?_ | refine uA ?_ | (apply S.exit; exact rfl) | ((with_reducible refine And.intro ?_ ?_); focus first | omega | trivial | exact id | (intros; simp_all <;> omega)) | simp (disch := omega) only [go_sem, Nat.reduceBEq, Nat.reduceAdd, Nat.reduceLeDiff, Int.reduceToNat, Int.reducePow, ww] | (refine uD hp ?_ ?_ ?_; exact tz hw; exact rfl))
  refine S.cond rfl (fun hc => ?_) (fun hc => ?_)
  · rw [if_pos (by simpa using hc)]
    (repeat first | refine uA ?_ | (apply S.exit; exact rfl) | ((with_reducible refine And.intro ?_ ?_); focus first | omega | trivial | exact id | (intros; simp_all <;> omega)) | simp (disch := omega) only [go_sem, Nat.reduceBEq, Nat.reduceAdd, Nat.reduceLeDiff, Int.reduceToNat, Int.reducePow, ww])
    exact S.done (RetOK.out rfl (Imp.refl rfl) rfl)
  rw [if_neg (by simpa using hc)]
  (repeat first | refine uA ?_ | (apply S.exit; exact rfl) | ((with_reducible refine And.intro ?_ ?_); focus first | omega | trivial | exact id | (intros; simp_all <;> omega)) | simp (disch := omega) only [go_sem, Nat.reduceBEq, Nat.reduceAdd, Nat.reduceLeDiff, Int.reduceToNat, Int.reducePow, ww, List.length_map])
  refine S.loop (X := Nat) (fun i => ⟨[(50, vts shape), (51, ints shape.length), (52, ints i)], []⟩) (fun i => i ≤ shape.length ∧ (shape.all fun v => smallB v.x && smallB v.y) = (shape.drop i).all fun v => smallB v.x && smallB v.y) (fun i => shape.length - i) 0 ⟨Nat.zero_le _, rfl⟩ (by (repeat first | refine uA ?_ | (refine ⟨?_, ?_⟩; focus first | rfl | trivial | (simp [slot]; done)) | rfl | trivial | simp)) ?_
  rintro i ⟨hi, hg⟩
  simp only [vts, ints]
  (repeat first | refine uA ?_ | (apply S.exit; exact rfl) | ((with_reducible refine And.intro ?_ ?_); focus first | omega | trivial | exact id | (intros; simp_all <;> omega)) | simp (disch := omega) only [go_sem, Nat.reduceBEq, Nat.reduceAdd, Nat.reduceLeDiff, Int.reduceToNat, Int.reducePow, ww])
  (refine uJ rfl (fun hc => ?_) fun hc => ?_)
  · have hi' : i < shape.length := by omega
    have hgi := List.getElem?_eq_getElem hi'
    generalize shape[i] = x at hgi
    have hd := drop_at hgi
    have hs := hv x (List.mem_of_getElem? hgi)
    rw [all_two] at hs
    (repeat first | refine uG hs ?_ | refine uA ?_ | (apply S.exit; exact rfl) | ((with_reducible refine And.intro ?_ ?_); focus first | omega | trivial | exact id | (intros; simp_all <;> omega)) | simp (disch := omega) only [go_sem, Nat.reduceBEq, Nat.reduceAdd, Nat.reduceLeDiff, Int.reduceToNat, Int.reducePow, ww, hgi, Option.map_some, List.length_map, Vt.enc, sb] | (refine uE hs ?_ ?_ ?_ ?_; exact tz hw; exact rfl; focus (repeat' first | exact ImpL.nil | exact Imp.refl rfl | exact Imp.frz rfl rfl rfl | (refine Imp.frzw rfl rfl ?_ ?_; (focus ((try simp only [List.length_append, hgi, Option.map_some, List.length_map, Vt.enc, sb]); omega)); (focus first | rfl | assumption)) | refine ImpL.cons ?_ ?_); done))
    refine S.cond rfl (fun hc2 => ?_) (fun hc2 => ?_)
    · have : (shape.all fun v => smallB v.x && smallB v.y) = false := by
        rw [hg, hd, List.all_cons]
        simp only [Bool.not_eq_true'] at hc2
        rw [hc2]; rfl
      rw [this]
      (repeat first | refine uA ?_ | (apply S.exit; exact rfl) | ((with_reducible refine And.intro ?_ ?_); focus first | omega | trivial | exact id | (intros; simp_all <;> omega)) | simp (disch := omega) only [go_sem, Nat.reduceBEq, Nat.reduceAdd, Nat.reduceLeDiff, Int.reduceToNat, Int.reducePow, ww])
      exact S.done (RetOK.out rfl (Imp.refl rfl) rfl)
    · (repeat first | refine uA ?_ | (apply S.exit; exact rfl) | ((with_reducible refine And.intro ?_ ?_); focus first | omega | trivial | exact id | (intros; simp_all <;> omega)) | simp (disch := omega) only [go_sem, Nat.reduceBEq, Nat.reduceAdd, Nat.reduceLeDiff, Int.reduceToNat, Int.reducePow, ww])
      refine S.next (i + 1) ⟨by omega, ?_⟩ (by omega) (by (repeat first | refine uA ?_ | (refine ⟨?_, ?_⟩; focus first | rfl | trivial | (simp [slot]; done)) | rfl | trivial | simp))
      rw [hg, hd, List.all_cons]
      simp only [Bool.not_eq_false'] at hc2
      rw [hc2]; rfl
  · have : (shape.all fun v => smallB v.x && smallB v.y) = true := by rw [hg, List.drop_eq_nil_of_le (by omega)]; rfl
    rw [this]
    (repeat first | refine uA ?_ | (apply S.exit; exact rfl) | ((with_reducible refine And.intro ?_ ?_); focus first | omega | trivial | exact id | (intros; simp_all <;> omega)) | simp (disch := omega) only [go_sem, Nat.reduceBEq, Nat.reduceAdd, Nat.reduceLeDiff, Int.reduceToNat, Int.reducePow, ww])
    exact S.done (RetOK.out rfl (Imp.refl rfl) rfl)
theorem f_armE (a : Am) (hl : Ab 1073741824 a) : FZ 57 [a.c] (ints (armE a)) := by
  refine FSpecW.of fn_arm_Check ok_arm_Check (by exact Nat.le_of_ble_eq_true rfl) fun w O hw => ?_
  obtain ⟨name, ⟨x, y, half, t⟩, links⟩ := a
  obtain ⟨b0, ⟨b1, b2, b3⟩, hn, hb⟩ := hl
  simp only at b0 b1 b2 b3 hn hb
  have c1 := b1.mono (m := 17179869184) (by decide)
  have c2 := b2.mono (m := 17179869184) (by decide)
  have c3 := b3.mono (m := 17179869184) (by decide)
  have hnm := f_isName name (by omega)
  have hsm := f_asmall _ (Rbs.three (by decide) c1 c2 c3)
  rw [all_three] at hsm
  have hs := f_rsign t c3
  unfold armE zeroT
  simp only
  generalize nameB name = q0 at *
  generalize (smallB x && smallB y && smallB t) = q at *
  generalize signQ (Nm.fitQ t) = n1 at *
  simp only [ir_arm_Check, frOf, TT, II, OA, OB, OC, MM, LL, VV, FF, MG, LG, VG, FG]
  simp only [Am.c, Am.enc, rc, rts, rcs, lks, sb, ints, List.map_cons, List.map_nil] at *
  (repeat first | refine uF hnm ?_ | refine uA ?_ | (apply S.exit; exact rfl) | ((with_reducible refine And.intro ?_ ?_); focus first | omega | trivial | exact id | (intros; simp_all <;> omega)) | simp (disch := omega) only [go_sem, Nat.reduceBEq, Nat.reduceAdd, Nat.reduceLeDiff, Int.reduceToNat, Int.reducePow, ww] | (refine uB hnm ?_ ?_; exact rfl))
  refine S.cond rfl (fun hc => ?_) (fun hc => ?_)
  · rw [if_pos (by simpa using hc)]
    (repeat first | refine uA ?_ | (apply S.exit; exact rfl) | ((with_reducible refine And.intro ?_ ?_); focus first | omega | trivial | exact id | (intros; simp_all <;> omega)) | simp (disch := omega) only [go_sem, Nat.reduceBEq, Nat.reduceAdd, Nat.reduceLeDiff, Int.reduceToNat, Int.reducePow, ww])
    exact S.done (RetOK.out rfl (Imp.refl rfl) rfl)
  rw [if_neg (by simpa using hc)]
  (repeat first | refine uA ?_ | (apply S.exit; exact rfl) | ((with_reducible refine And.intro ?_ ?_); focus first | omega | trivial | exact id | (intros; simp_all <;> omega)) | simp (disch := omega) only [go_sem, Nat.reduceBEq, Nat.reduceAdd, Nat.reduceLeDiff, Int.reduceToNat, Int.reducePow, ww, List.length_map])
  refine S.cond rfl (fun hc => ?_) (fun hc => ?_)
  · rw [if_pos (by simp only [decide_eq_true_eq] at hc; omega)]
    (repeat first | refine uA ?_ | (apply S.exit; exact rfl) | ((with_reducible refine And.intro ?_ ?_); focus first | omega | trivial | exact id | (intros; simp_all <;> omega)) | simp (disch := omega) only [go_sem, Nat.reduceBEq, Nat.reduceAdd, Nat.reduceLeDiff, Int.reduceToNat, Int.reducePow, ww])
    exact S.done (RetOK.out rfl (Imp.refl rfl) rfl)
  rw [if_neg (by simp only [decide_eq_false_iff_not] at hc; omega)]
  by_cases h0 : links.length = 0
  · rw [if_pos (.inl h0)]
    have e0 : decide ((links.length : Int) = 0) = true := decide_eq_true (by omega)
    (repeat first | refine uG hs ?_ | refine uG hsm ?_ | refine uA ?_ | (apply S.exit; exact rfl) | ((with_reducible refine And.intro ?_ ?_); focus first | omega | trivial | exact id | (intros; simp_all <;> omega)) | simp (disch := omega) only [go_sem, Nat.reduceBEq, Nat.reduceAdd, Nat.reduceLeDiff, Int.reduceToNat, Int.reducePow, ww, List.length_map, e0] | (refine uD hs ?_ ?_ ?_; exact tz hw; exact rfl) | (refine uE hsm ?_ ?_ ?_ ?_; exact tz hw; exact rfl; focus (repeat' first | exact ImpL.nil | exact Imp.refl rfl | exact Imp.frz rfl rfl rfl | (refine Imp.frzw rfl rfl ?_ ?_; (focus ((try simp only [List.length_append, List.length_map, e0]); omega)); (focus first | rfl | assumption)) | refine ImpL.cons ?_ ?_); done))
    refine S.cond rfl (fun _ => ?_) (fun hc => by simp at hc)
    (repeat first | refine uA ?_ | (apply S.exit; exact rfl) | ((with_reducible refine And.intro ?_ ?_); focus first | omega | trivial | exact id | (intros; simp_all <;> omega)) | simp (disch := omega) only [go_sem, Nat.reduceBEq, Nat.reduceAdd, Nat.reduceLeDiff, Int.reduceToNat, Int.reducePow, ww])
    exact S.done (RetOK.out rfl (Imp.refl rfl) rfl)
  have e0 : decide ((links.length : Int) = 0) = false := decide_eq_false (by omega)
  (repeat first | refine uG hs ?_ | refine uG hsm ?_ | refine uA ?_ | (apply S.exit; exact rfl) | ((with_reducible refine And.intro ?_ ?_); focus first | omega | trivial | exact id | (intros; simp_all <;> omega)) | simp (disch := omega) only [go_sem, Nat.reduceBEq, Nat.reduceAdd, Nat.reduceLeDiff, Int.reduceToNat, Int.reducePow, ww, List.length_map, e0] | (refine uD hs ?_ ?_ ?_; exact tz hw; exact rfl) | (refine uE hsm ?_ ?_ ?_ ?_; exact tz hw; exact rfl; focus (repeat' first | exact ImpL.nil | exact Imp.refl rfl | exact Imp.frz rfl rfl rfl | (refine Imp.frzw rfl rfl ?_ ?_; (focus ((try simp only [List.length_append, List.length_map, e0]); omega)); (focus first | rfl | assumption)) | refine ImpL.cons ?_ ?_); done))
  refine S.cond rfl (fun hc => ?_) (fun hc => ?_)
  · rw [if_pos (by simp only [Bool.or_eq_true, Bool.not_eq_true', decide_eq_true_eq] at hc; rcases hc with hc | hc; (· exact .inr (.inl hc)); (· exact .inr (.inr (by cases half <;> simp_all))))]
    (repeat first | refine uA ?_ | (apply S.exit; exact rfl) | ((with_reducible refine And.intro ?_ ?_); focus first | omega | trivial | exact id | (intros; simp_all <;> omega)) | simp (disch := omega) only [go_sem, Nat.reduceBEq, Nat.reduceAdd, Nat.reduceLeDiff, Int.reduceToNat, Int.reducePow, ww])
    exact S.done (RetOK.out rfl (Imp.refl rfl) rfl)
  rw [if_neg (by simp only [Bool.or_eq_false_iff, Bool.not_eq_false', decide_eq_false_iff_not] at hc; rintro (h | h | h); (· omega); (· simp_all); (· cases half <;> simp_all))]
  (repeat first | refine uA ?_ | (apply S.exit; exact rfl) | ((with_reducible refine And.intro ?_ ?_); focus first | omega | trivial | exact id | (intros; simp_all <;> omega)) | simp (disch := omega) only [go_sem, Nat.reduceBEq, Nat.reduceAdd, Nat.reduceLeDiff, Int.reduceToNat, Int.reducePow, ww, List.length_map])
  refine S.loop (X := Nat) (fun i => ⟨[(48, lks links), (49, ints links.length), (50, ints i)], []⟩) (fun i => i ≤ links.length ∧ firstE linkE links = firstE linkE (links.drop i)) (fun i => links.length - i) 0 ⟨Nat.zero_le _, rfl⟩ (by (repeat first | refine uA ?_ | (refine ⟨?_, ?_⟩; focus first | rfl | trivial | (simp [slot]; done)) | rfl | trivial | simp)) ?_
  rintro i ⟨hi, hg⟩
  simp only [lks, ints]
  (repeat first | refine uA ?_ | (apply S.exit; exact rfl) | ((with_reducible refine And.intro ?_ ?_); focus first | omega | trivial | exact id | (intros; simp_all <;> omega)) | simp (disch := omega) only [go_sem, Nat.reduceBEq, Nat.reduceAdd, Nat.reduceLeDiff, Int.reduceToNat, Int.reducePow, ww])
  (refine uJ rfl (fun hc => ?_) fun hc => ?_)
  · have hi' : i < links.length := by omega
    have hgi := List.getElem?_eq_getElem hi'
    generalize links[i] = x at hgi
    have hst := firstE_stop (f := linkE) hgi
    have hnx := firstE_next (f := linkE) hgi
    have hs := f_linkE x (hb x (List.mem_of_getElem? hgi))
    generalize linkE x = e at *
    simp only [Lk.c, Lk.enc, vts, sb, ints] at hs
    (repeat first | refine uG hs ?_ | refine uA ?_ | (apply S.exit; exact rfl) | ((with_reducible refine And.intro ?_ ?_); focus first | omega | trivial | exact id | (intros; simp_all <;> omega)) | simp (disch := omega) only [go_sem, Nat.reduceBEq, Nat.reduceAdd, Nat.reduceLeDiff, Int.reduceToNat, Int.reducePow, ww, hgi, Option.map_some, List.length_map, Lk.enc, vts, sb] | (refine uD hs ?_ ?_ ?_; exact tz hw; exact rfl))
    refine S.cond rfl (fun hc2 => ?_) (fun hc2 => ?_)
    · rw [hg, hst (by simpa using hc2)]
      (repeat first | refine uA ?_ | (apply S.exit; exact rfl) | ((with_reducible refine And.intro ?_ ?_); focus first | omega | trivial | exact id | (intros; simp_all <;> omega)) | simp (disch := omega) only [go_sem, Nat.reduceBEq, Nat.reduceAdd, Nat.reduceLeDiff, Int.reduceToNat, Int.reducePow, ww])
      exact S.done (RetOK.out rfl (Imp.refl rfl) rfl)
    · (repeat first | refine uA ?_ | (apply S.exit; exact rfl) | ((with_reducible refine And.intro ?_ ?_); focus first | omega | trivial | exact id | (intros; simp_all <;> omega)) | simp (disch := omega) only [go_sem, Nat.reduceBEq, Nat.reduceAdd, Nat.reduceLeDiff, Int.reduceToNat, Int.reducePow, ww])
      refine S.next (i + 1) ⟨by omega, ?_⟩ (by omega) (by (repeat first | refine uA ?_ | (refine ⟨?_, ?_⟩; focus first | rfl | trivial | (simp [slot]; done)) | rfl | trivial | simp))
      rw [hg, hnx (by simpa using hc2)]
  · rw [hg, firstE_end (by omega)]
    (repeat first | refine uA ?_ | (apply S.exit; exact rfl) | ((with_reducible refine And.intro ?_ ?_); focus first | omega | trivial | exact id | (intros; simp_all <;> omega)) | simp (disch := omega) only [go_sem, Nat.reduceBEq, Nat.reduceAdd, Nat.reduceLeDiff, Int.reduceToNat, Int.reducePow, ww])
    exact S.done (RetOK.out rfl (Imp.refl rfl) rfl)
end Go.Proofs.YtfadociodcmhfaaGreatDoor
namespace Go.Proofs.YtfadociodcmhfaaGreatDoor
set_option linter.all false
open Go Go.RowKit Eng
set_option maxRecDepth 10000
set_option maxHeartbeats 8000000
def hasE (a : Am) (n : Int) : Int := if armE a ≠ 0 then armE a else if n ≠ a.links.length then 1 else 0
theorem f_ahas (a : Am) (n : Int) (hl : Ab 1073741824 a) : FZ 192 [a.c, ints n] (ints (hasE a n)) := by
  refine FSpecW.of fn_arm_Has ok_arm_Has (by exact Nat.le_of_ble_eq_true rfl) fun w O hw => ?_
  have h := f_armE a hl
  unfold hasE
  generalize armE a = e at *
  obtain ⟨name, ⟨x, y, half, t⟩, links⟩ := a
  simp only [ir_arm_Has, frOf, TT, II, OA, OB, OC, MM, LL, VV, FF, MG, LG, VG, FG]
  simp only [Am.c, Am.enc, lks, sb, ints] at *
  (repeat first | refine uA ?_ | (apply S.exit; exact rfl) | ((with_reducible refine And.intro ?_ ?_); focus first | omega | trivial | exact id | (intros; simp_all <;> omega)) | simp (disch := omega) only [go_sem, Nat.reduceBEq, Nat.reduceAdd, Nat.reduceLeDiff, Int.reduceToNat, Int.reducePow, ww] | (refine uD h ?_ ?_ ?_; exact tz hw; exact rfl))
  refine S.cond rfl (fun hc => ?_) (fun hc => ?_)
  · rw [if_pos (by simpa using hc)]
    (repeat first | refine uA ?_ | (apply S.exit; exact rfl) | ((with_reducible refine And.intro ?_ ?_); focus first | omega | trivial | exact id | (intros; simp_all <;> omega)) | simp (disch := omega) only [go_sem, Nat.reduceBEq, Nat.reduceAdd, Nat.reduceLeDiff, Int.reduceToNat, Int.reducePow, ww])
    exact S.done (RetOK.out rfl (Imp.refl rfl) rfl)
  rw [if_neg (by simpa using hc)]
  (repeat first | refine uA ?_ | (apply S.exit; exact rfl) | ((with_reducible refine And.intro ?_ ?_); focus first | omega | trivial | exact id | (intros; simp_all <;> omega)) | simp (disch := omega) only [go_sem, Nat.reduceBEq, Nat.reduceAdd, Nat.reduceLeDiff, Int.reduceToNat, Int.reducePow, ww, List.length_map])
  refine S.cond rfl (fun hc => ?_) (fun hc => ?_)
  · rw [if_pos (by simpa using hc)]
    (repeat first | refine uA ?_ | (apply S.exit; exact rfl) | ((with_reducible refine And.intro ?_ ?_); focus first | omega | trivial | exact id | (intros; simp_all <;> omega)) | simp (disch := omega) only [go_sem, Nat.reduceBEq, Nat.reduceAdd, Nat.reduceLeDiff, Int.reduceToNat, Int.reducePow, ww])
    exact S.done (RetOK.out rfl (Imp.refl rfl) rfl)
  · rw [if_neg (by simpa using hc)]
    (repeat first | refine uA ?_ | (apply S.exit; exact rfl) | ((with_reducible refine And.intro ?_ ?_); focus first | omega | trivial | exact id | (intros; simp_all <;> omega)) | simp (disch := omega) only [go_sem, Nat.reduceBEq, Nat.reduceAdd, Nat.reduceLeDiff, Int.reduceToNat, Int.reducePow, ww])
    exact S.done (RetOK.out rfl (Imp.refl rfl) rfl)
def fitE (x : Lk × Nm.Rt) : Int := if Nm.cmpQ (Nm.fitQ x.2) (Nm.fitQ x.1.low) < 0 ∨ 0 < Nm.cmpQ (Nm.fitQ x.2) (Nm.fitQ x.1.high) then 17 else 0
theorem fitsE_eq (a : Am) (q : List Nm.Rt) : fitsE a q = if hasE a q.length ≠ 0 then hasE a q.length else firstE fitE (a.links.zip q) := by
  unfold fitsE hasE
  by_cases h : armE a = 0
  · rw [if_neg (by simp [h])]
    by_cases h2 : q.length = a.links.length
    · simp [h, h2]; rfl
    · have h3 : ¬ (q.length : Int) = a.links.length := by omega
      simp [h, h2, h3]
  · simp [h]
theorem zip_get {α β : Type} {l : List α} {m : List β} {i : Nat} {x : α} {y : β} (h : l[i]? = some x) (k : m[i]? = some y) : (l.zip m)[i]? = some (x, y) := by
  rw [List.getElem?_zip_eq_some]; exact ⟨h, k⟩
theorem f_fits (a : Am) (q : List Nm.Rt) (hl : Ab 1073741824 a) (hq : Rbs 1073741824 q) : FZ 140 [a.c, rts q] (ints (fitsE a q)) := by
  refine FSpecW.of fn_arm_Fits ok_arm_Fits (by exact Nat.le_of_ble_eq_true rfl) fun w O hw => ?_
  have h := f_ahas a q.length hl
  rw [fitsE_eq]
  have hlen : hasE a q.length = 0 → q.length = a.links.length := by
    unfold hasE
    intro h
    split at h
    · rename_i h1; exact absurd h h1
    · split at h
      · cases h
      · rename_i h1; have := Classical.not_not.1 h1; omega
  generalize hasE a q.length = e at *
  obtain ⟨hqn, hqb⟩ := hq
  obtain ⟨name, ⟨x, y, half, t⟩, links⟩ := a
  obtain ⟨b0, ⟨b1, b2, b3⟩, hn, hb⟩ := hl
  simp only at b0 b1 b2 b3 hn hb hlen
  simp only [ir_arm_Fits, frOf, TT, II, OA, OB, OC, MM, LL, VV, FF, MG, LG, VG, FG]
  simp only [Am.c, Am.enc, lks, sb, ints, rts] at *
  (repeat first | refine uA ?_ | (apply S.exit; exact rfl) | ((with_reducible refine And.intro ?_ ?_); focus first | omega | trivial | exact id | (intros; simp_all <;> omega)) | simp (disch := omega) only [go_sem, Nat.reduceBEq, Nat.reduceAdd, Nat.reduceLeDiff, Int.reduceToNat, Int.reducePow, ww, List.length_map] | (refine uD h ?_ ?_ ?_; exact tz hw; exact rfl))
  refine S.cond rfl (fun hc => ?_) (fun hc => ?_)
  · rw [if_pos (by simpa using hc)]
    (repeat first | refine uA ?_ | (apply S.exit; exact rfl) | ((with_reducible refine And.intro ?_ ?_); focus first | omega | trivial | exact id | (intros; simp_all <;> omega)) | simp (disch := omega) only [go_sem, Nat.reduceBEq, Nat.reduceAdd, Nat.reduceLeDiff, Int.reduceToNat, Int.reducePow, ww])
    exact S.done (RetOK.out rfl (Imp.refl rfl) rfl)
  rw [if_neg (by simpa using hc)]
  have hlen := hlen (by simpa using hc)
  (repeat first | refine uA ?_ | (apply S.exit; exact rfl) | ((with_reducible refine And.intro ?_ ?_); focus first | omega | trivial | exact id | (intros; simp_all <;> omega)) | simp (disch := omega) only [go_sem, Nat.reduceBEq, Nat.reduceAdd, Nat.reduceLeDiff, Int.reduceToNat, Int.reducePow, ww, List.length_map])
  refine S.loop (X := Nat) (fun i => ⟨[(1, rts q), (16, lks links), (17, ints links.length), (18, ints i)], []⟩) (fun i => i ≤ links.length ∧ firstE fitE (links.zip q) = firstE fitE ((links.zip q).drop i)) (fun i => links.length - i) 0 ⟨Nat.zero_le _, rfl⟩ (by (repeat first | refine uA ?_ | (refine ⟨?_, ?_⟩; focus first | rfl | trivial | (simp [slot]; done)) | rfl | trivial | simp)) ?_
  rintro i ⟨hi, hg⟩
  simp only [rts, lks, ints]
  (repeat first | refine uA ?_ | (apply S.exit; exact rfl) | ((with_reducible refine And.intro ?_ ?_); focus first | omega | trivial | exact id | (intros; simp_all <;> omega)) | simp (disch := omega) only [go_sem, Nat.reduceBEq, Nat.reduceAdd, Nat.reduceLeDiff, Int.reduceToNat, Int.reducePow, ww])
  (refine uJ rfl (fun hc => ?_) fun hc => ?_)
  · have hi' : i < links.length := by omega
    have hgi := List.getElem?_eq_getElem hi'
    have hgq := List.getElem?_eq_getElem (show i < q.length by omega)
    generalize links[i] = x at hgi
    generalize q[i]'_ = v at hgq
    have hz := zip_get hgi hgq
    have hst := firstE_stop (f := fitE) hz
    have hnx := firstE_next (f := fitE) hz
    have bx := hb x (List.mem_of_getElem? hgi)
    have bv := (hqb v (List.mem_of_getElem? hgq)).mono (m := 17179869184) (by decide)
    have h1 := f_rcmp v x.low bv (bx.2.1.mono (by decide))
    have h2 := f_rcmp v x.high bv (bx.2.2.1.mono (by decide))
    unfold fitE at hst hnx
    simp only at hst hnx
    generalize Nm.cmpQ (Nm.fitQ v) (Nm.fitQ x.low) = n1 at *
    generalize Nm.cmpQ (Nm.fitQ v) (Nm.fitQ x.high) = n2 at *
    have hqi : (i : Int) < q.length := by omega
    simp only [rc, sb, ints] at h1 h2
    (repeat first | refine uA ?_ | (apply S.exit; exact rfl) | ((with_reducible refine And.intro ?_ ?_); focus first | omega | trivial | exact id | (intros; simp_all <;> omega)) | simp (disch := omega) only [go_sem, Nat.reduceBEq, Nat.reduceAdd, Nat.reduceLeDiff, Int.reduceToNat, Int.reducePow, ww, hgi, hgq, Option.map_some, List.length_map, Lk.enc, rcs, vts, sb, Int.toNat_natCast] | (refine uD h1 ?_ ?_ ?_; exact tz hw; exact rfl) | (refine uD h2 ?_ ?_ ?_; exact tz hw; exact rfl))
    refine S.cond rfl (fun hc2 => ?_) (fun hc2 => ?_)
    · have hp : n1 < 0 ∨ 0 < n2 := by simpa using hc2
      rw [if_pos hp] at hst
      rw [hg, show fitE = fun x : Lk × Nm.Rt => if Nm.cmpQ (Nm.fitQ x.2) (Nm.fitQ x.1.low) < 0 ∨ 0 < Nm.cmpQ (Nm.fitQ x.2) (Nm.fitQ x.1.high) then 17 else 0 from rfl, hst (by decide)]
      (repeat first | refine uA ?_ | (apply S.exit; exact rfl) | ((with_reducible refine And.intro ?_ ?_); focus first | omega | trivial | exact id | (intros; simp_all <;> omega)) | simp (disch := omega) only [go_sem, Nat.reduceBEq, Nat.reduceAdd, Nat.reduceLeDiff, Int.reduceToNat, Int.reducePow, ww])
      exact S.done (RetOK.out rfl (Imp.refl rfl) rfl)
    · have hp : ¬ (n1 < 0 ∨ 0 < n2) := by simpa using hc2
      rw [if_neg hp] at hnx
      (repeat first | refine uA ?_ | (apply S.exit; exact rfl) | ((with_reducible refine And.intro ?_ ?_); focus first | omega | trivial | exact id | (intros; simp_all <;> omega)) | simp (disch := omega) only [go_sem, Nat.reduceBEq, Nat.reduceAdd, Nat.reduceLeDiff, Int.reduceToNat, Int.reducePow, ww])
      refine S.next (i + 1) ⟨by omega, ?_⟩ (by omega) (by (repeat first | refine uA ?_ | (refine ⟨?_, ?_⟩; focus first | rfl | trivial | (simp [slot]; done)) | rfl | trivial | simp))
      rw [hg, show fitE = fun x : Lk × Nm.Rt => if Nm.cmpQ (Nm.fitQ x.2) (Nm.fitQ x.1.low) < 0 ∨ 0 < Nm.cmpQ (Nm.fitQ x.2) (Nm.fitQ x.1.high) then 17 else 0 from rfl, hnx rfl]
  · rw [hg, firstE_end (by rw [List.length_zip]; omega)]
    (repeat first | refine uA ?_ | (apply S.exit; exact rfl) | ((with_reducible refine And.intro ?_ ?_); focus first | omega | trivial | exact id | (intros; simp_all <;> omega)) | simp (disch := omega) only [go_sem, Nat.reduceBEq, Nat.reduceAdd, Nat.reduceLeDiff, Int.reduceToNat, Int.reducePow, ww])
    exact S.done (RetOK.out rfl (Imp.refl rfl) rfl)
end Go.Proofs.YtfadociodcmhfaaGreatDoor
namespace Go.Proofs.YtfadociodcmhfaaGreatDoor
set_option linter.all false
open Go Go.RowKit Eng
set_option maxRecDepth 100000
set_option maxHeartbeats 4000000
theorem small_rb {a : Nm.Rt} (h : smallB a = true) : Rb 3 a := by
  unfold smallB at h
  simp only [Bool.and_eq_true, decide_eq_true_eq] at h
  exact ⟨h.1.1.1.1, by have := h.1.1.1.2; omega⟩
theorem small_big {a : Nm.Rt} (h : smallB a = true) : Rb 1073741824 a := (small_rb h).mono (by decide)
theorem first_all {α : Type} {f : α → Int} : ∀ {l : List α}, firstE f l = 0 → ∀ x ∈ l, f x = 0
  | [], _, x, hx => by cases hx
  | y :: l, h, x, hx => by
    rw [firstE] at h
    split at h
    · rename_i h0
      rcases List.mem_cons.1 hx with rfl | hx
      · exact h0
      · exact first_all h x hx
    · rename_i h0; exact absurd h h0
theorem polyE_len {l : List Vt} (h : polyE l 8 = 0) : l.length ≤ 8 := by
  unfold polyE at h
  split at h
  · cases h
  · omega
theorem shape_big {l : List Vt} (h : shapeE l = 0) : Vbs 1073741824 l := by
  have hl := polyE_len (shapeE_poly h)
  unfold shapeE at h
  rw [shapeE_poly h, if_neg (by decide)] at h
  split at h
  · rename_i ha
    rw [List.all_eq_true] at ha
    refine ⟨by omega, fun v hv => ?_⟩
    have := ha v hv
    unfold okV at this
    simp only [Bool.and_eq_true] at this
    exact ⟨small_big this.1.2, small_big this.2⟩
  · cases h
theorem link_facts {l : Lk} (h : linkE l = 0) : Lb 1073741824 l ∧ Nm.cmpQ (Nm.fitQ l.low) (Nm.fitQ l.high) < 0 ∧ 0 < signQ (Nm.fitQ l.speed) := by
  unfold linkE at h
  split at h
  · cases h
  rename_i h1
  split at h
  · cases h
  rename_i h2
  split at h
  · rename_i h3; exact absurd h h3
  rename_i h3
  split at h
  · rename_i h4
    have h1a : (smallB l.length && smallB l.low && smallB l.high && smallB l.speed && smallB l.brake) = true := by
      cases hb : (smallB l.length && smallB l.low && smallB l.high && smallB l.speed && smallB l.brake) with
      | true => rfl
      | false => exact absurd (.inl hb) h1
    simp only [Bool.and_eq_true] at h1a
    obtain ⟨⟨⟨⟨s1, s2⟩, s3⟩, s4⟩, s5⟩ := h1a
    have hpe := polyE_len (Classical.not_not.1 h3)
    rw [List.all_eq_true] at h4
    refine ⟨⟨small_big s1, small_big s2, small_big s3, small_big s4, small_big s5, by omega, fun v hv => ?_⟩, ?_, ?_⟩
    · have := h4 v hv
      simp only [Bool.and_eq_true] at this
      exact ⟨small_big this.1, small_big this.2⟩
    · have : ¬ 0 ≤ Nm.cmpQ (Nm.fitQ l.low) (Nm.fitQ l.high) := fun h => h1 (.inr (.inr h))
      omega
    · have : ¬ signQ (Nm.fitQ l.speed) ≤ 0 := fun h => h2 (.inl h)
      omega
  · cases h
theorem arm_facts {a : Am} (h : armE a = 0) : Ab 1073741824 a ∧ ∀ l ∈ a.links, linkE l = 0 := by
  unfold armE at h
  split at h
  · cases h
  rename_i h1
  split at h
  · cases h
  split at h
  · cases h
  rename_i h2 h3
  have hn : a.name.length ≤ 12 := by
    have : nameB a.name = true := by simpa using h1
    unfold nameB at this
    simp only [Bool.and_eq_true, decide_eq_true_eq] at this
    exact this.2
  have h3a : (smallB a.base.x && smallB a.base.y && smallB a.base.t) = true := by
    cases hb : (smallB a.base.x && smallB a.base.y && smallB a.base.t) with
    | true => rfl
    | false => exact absurd (.inr (.inl hb)) h3
  simp only [Bool.and_eq_true] at h3a
  have hl := first_all h
  exact ⟨⟨by omega, ⟨small_big h3a.1.1, small_big h3a.1.2, small_big h3a.2⟩, by omega, fun l hl' => (link_facts (hl l hl')).1⟩, hl⟩
theorem okF_big {f : Fr} (h : okF f = true) : Fb 1073741824 f ∧ goodF f = true := by
  unfold okF okV at h
  simp only [Bool.and_eq_true, decide_eq_true_eq] at h
  obtain ⟨⟨⟨⟨⟨⟨g1, g2⟩, s1⟩, s2⟩, g3⟩, s3⟩, z⟩ := h
  refine ⟨⟨small_big s1, small_big s2, small_big s3⟩, ?_⟩
  unfold goodF goodB
  simp [g1, g2, g3, z]
theorem nm_len {n : Nat} : (armN n).length ≤ 5 ∧ (partN n).length ≤ 4 ∧ (slotN n).length ≤ 6 := by
  refine ⟨?_, ?_, ?_⟩
  · unfold armN
    match n with
    | 0 | 1 | 2 | 3 => decide
    | n + 4 => simp
  · unfold partN
    match n with
    | 0 | 1 => decide
    | n + 2 => simp
  · unfold slotN
    match n with
    | 0 | 1 | 2 => decide
    | n + 3 => simp
theorem name_part : ∀ (c n : Nat) (l : List Int), ∀ p ∈ partsS c n l, p.name.length ≤ 4
  | 0, _, _, p, hp => by cases hp
  | c + 1, n, l, p, hp => by
    rcases List.mem_cons.1 hp with rfl | hp
    · exact nm_len.2.1
    · exact name_part c _ _ p hp
theorem name_slot : ∀ (c n : Nat) (l : List Int), ∀ p ∈ slotsS c n l, p.name.length ≤ 6
  | 0, _, _, p, hp => by cases hp
  | c + 1, n, l, p, hp => by
    rcases List.mem_cons.1 hp with rfl | hp
    · exact nm_len.2.2
    · exact name_slot c _ _ p hp
theorem name_gate : ∀ (c : Nat) (l : List Int), ∀ p ∈ gatesS c l, p.name.length ≤ 4
  | 0, _, p, hp => by cases hp
  | c + 1, l, p, hp => by
    rcases List.mem_cons.1 hp with rfl | hp
    · exact (by decide : ([100, 111, 111, 114] : List UInt8).length ≤ 4)
    · exact name_gate c _ p hp
theorem works_big (l : List Int) : Wb 1073741824 (worksM l) := by
  obtain ⟨c1, c2, c3, c4, c5⟩ := counts l
  have x1 := armsS_ok (nA l) 0 (l.drop 1) (by omega)
  have x2 := wallsS_ok (nW l) ((l1 l).drop 1)
  have x3 := partsS_ok (nP l) 0 ((l2 l).drop 1)
  have x4 := slotsS_ok (nS l) 0 ((l3 l).drop 1)
  have x5 := gatesS_ok (nG l) ((l4 l).drop 1)
  have a1 := nx_nonneg (l5 l) (n := 4) (by decide)
  have a2 := nx_lt (l5 l) (n := 4) (by decide)
  refine ⟨⟨?_, fun x hx => (arm_facts (x1 x hx)).1⟩, ⟨?_, fun x hx => shape_big (x2.1 x hx).1⟩, ⟨?_, fun x hx => ?_⟩, ⟨?_, fun x hx => ?_⟩, ⟨?_, fun x hx => ?_⟩, ?_⟩
  · show (armsS _ _ _).length ≤ _
    rw [armsS_len]; omega
  · show (wallsS _ _).length ≤ _
    rw [x2.2]; omega
  · show (partsS _ _ _).length ≤ _
    rw [x3.2.1]; omega
  · obtain ⟨⟨h1, h2⟩, h3⟩ := x3.1 x hx
    have := name_part _ _ _ x hx
    exact ⟨by omega, shape_big h1, (okF_big h2).1⟩
  · show (slotsS _ _ _).length ≤ _
    rw [x4.2.1]; omega
  · have h := x4.1 x hx
    simp only [Bool.and_eq_true] at h
    have := name_slot _ _ _ x hx
    exact ⟨by omega, (okF_big h.1.1.1).1, small_big h.1.2⟩
  · show (gatesS _ _).length ≤ _
    rw [x5.2.1]; omega
  · have h := x5.1 x hx
    simp only [Bool.and_eq_true] at h
    have := name_gate _ _ x hx
    obtain ⟨⟨⟨h1, h2⟩, _⟩, _⟩ := h
    unfold okV at h1 h2
    simp only [Bool.and_eq_true] at h1 h2
    exact ⟨by omega, ⟨small_big h1.1.2, small_big h1.2⟩, small_big h2.1.2, small_big h2.2⟩
  · exact small_big (small_Q _ _ (by omega) (by decide))
theorem zip_mem {α β : Type} {f : α → β} : ∀ {l : List α} {x : α × β}, x ∈ l.zip (l.map f) → x.1 ∈ l ∧ x.2 = f x.1
  | [], x, h => by simp at h
  | a :: l, x, h => by
    simp only [List.map_cons, List.zip_cons_cons] at h
    rcases List.mem_cons.1 h with rfl | h
    · exact ⟨List.mem_cons_self .., rfl⟩
    · exact ⟨List.mem_cons_of_mem _ (zip_mem h).1, (zip_mem h).2⟩
theorem cmp_neg (p q : Rat) : Nm.cmpQ p q < 0 ↔ p < q := by
  unfold Nm.cmpQ
  split
  · simp_all
  · split
    · simp_all
    · simp_all
theorem cmp_pos (p q : Rat) : 0 < Nm.cmpQ p q ↔ q < p := by
  unfold Nm.cmpQ
  split
  · rename_i h; simp; grind
  · split
    · rename_i h1 h2; simp; grind
    · rename_i h1 h2; simp; grind
theorem first_fit {l : Lk} (h : linkE l = 0) : fitE (l, firstQ l) = 0 := by
  have hc := (cmp_neg _ _).1 (link_facts h).2.1
  unfold fitE firstQ
  simp only [Nm.fit_of]
  rw [if_neg]
  rw [cmp_neg, cmp_pos]
  unfold maxQ minQ
  have e1 : ∀ p q : Rat, (Nm.cmpQ p q ≥ 0) ↔ ¬ p < q := fun p q => by rw [← cmp_neg]; omega
  have e2 : ∀ p q : Rat, (Nm.cmpQ p q ≤ 0) ↔ ¬ q < p := fun p q => by rw [← cmp_pos]; omega
  simp only [e1, e2]
  repeat' split
  all_goals grind
theorem first_speed {l : Lk} (h : linkE l = 0) : speedE (l, Nm.ofQ 0) = 0 := by
  have hs := (link_facts h).2.2
  unfold speedE
  simp only [Nm.fit_of]
  rw [if_neg]
  have h0 : absR 0 = 0 := rfl
  rw [h0, cmp_pos]
  have hn : 0 < (Nm.fitQ l.speed).num := by
    unfold signQ at hs
    split at hs
    · omega
    · split at hs <;> omega
  intro hlt
  have := (Rat.lt_iff _ _).1 hlt
  simp at this
  omega
theorem first_one {a : Am} (h : armE a = 0) (n : Nat) : oneE a (firstA a) n = 0 := by
  have hl := (arm_facts h).2
  unfold oneE firstA
  simp only
  have g1 : (a.links.map firstQ).all goodB = true := by
    rw [List.all_eq_true]
    intro x hx
    obtain ⟨l, _, rfl⟩ := List.mem_map.1 hx
    exact decide_eq_true (Nm.good_of _)
  have g2 : (a.links.map fun _ => Nm.ofQ 0).all goodB = true := by
    rw [List.all_eq_true]
    intro x hx
    obtain ⟨l, _, rfl⟩ := List.mem_map.1 hx
    exact decide_eq_true (Nm.good_of _)
  have hf : fitsE a (a.links.map firstQ) = 0 := by
    rw [fitsE_eq]
    have : hasE a (a.links.map firstQ).length = 0 := by
      unfold hasE
      rw [h, if_neg (by decide), List.length_map, if_neg (by simp)]
    rw [this, if_neg (by decide)]
    refine first_zero fun x hx => ?_
    obtain ⟨h1, h2⟩ := zip_mem hx
    obtain ⟨x1, x2⟩ := x
    simp only at h1 h2
    rw [h2]
    exact first_fit (hl x1 h1)
  rw [g1, g2, if_neg (by decide), hf, if_neg (by decide), if_neg (by simp; omega)]
  refine first_zero fun x hx => ?_
  obtain ⟨h1, h2⟩ := zip_mem hx
  obtain ⟨x1, x2⟩ := x
  simp only at h1 h2
  rw [h2]
  exact first_speed (hl x1 h1)
theorem first_holds (n : Nat) : ∀ (l : List Am) (h : List Int), (∀ a ∈ l, armE a = 0) → (eachE (holdS n) h (l.zip (l.map firstA))).1 = 0
  | [], _, _ => rfl
  | a :: l, h, ha => by
    have e : holdS n h (a, firstA a) = (0, hdPut h (-1)) := by
      unfold holdS
      simp only
      rw [first_one (ha a (by simp)) n, if_neg (by decide), if_neg (by simp [firstA])]
      rfl
    simp only [List.map_cons, List.zip_cons_cons, eachE, e]
    exact first_holds n l _ fun x hx => ha x (by simp [hx])
theorem first_ok {w : Wk} (h : worksE w = 0) (ha : ∀ a ∈ w.arms, armE a = 0) (hs : ∀ s ∈ w.slots, okF s.frame = true) : stateE w (firstS w) = 0 := by
  unfold stateE
  have l1 : (firstS w).arms.length = w.arms.length := by simp [firstS]
  have l2 : (firstS w).parts.length = w.parts.length := by simp [firstS]
  have l3 : (firstS w).gates.length = w.gates.length := by simp [firstS]
  have l4 : (firstS w).people = [] := rfl
  have l5 : (firstS w).tick = 0 := rfl
  have hh : (eachE (holdS w.parts.length) [] (w.arms.zip (firstS w).arms)).1 = 0 := first_holds _ w.arms [] ha
  have hp : (firstS w).parts.all goodF = true := by
    rw [List.all_eq_true]
    intro f hf
    obtain ⟨i, _, rfl⟩ := List.mem_map.1 hf
    unfold firstP
    split
    · exact (okF_big (hs _ (List.getElem_mem _))).2
    · unfold zeroF goodF goodB zeroT
      simp [Nm.good_of]
  rw [h, if_neg (by decide), l4, if_neg (by decide), l1, l2, l3, l5, if_neg (by simp), hh, if_neg (by decide), hp]
  rfl
theorem zero_big : Rb 1073741824 (Nm.ofQ 0) := ⟨Nat.le_trans (Nm.enc_len_le (k := 8) (by decide)) (by decide), Nat.le_trans (Nm.enc_len_le (k := 8) (by decide)) (by decide)⟩
theorem first_big {w : Wk} (hw : Wb 1073741824 w) (ha : ∀ a ∈ w.arms, armE a = 0) (hs : ∀ s ∈ w.slots, okF s.frame = true) : Stb 1073741824 (firstS w) := by
  refine ⟨⟨?_, fun x hx => ?_⟩, ⟨?_, fun x hx => ?_⟩, ⟨Nat.zero_le _, fun v hv => by cases hv⟩, ?_⟩
  · show (w.arms.map firstA).length ≤ _
    rw [List.length_map]; exact hw.arms.1
  · obtain ⟨a, haa, rfl⟩ := List.mem_map.1 hx
    have hab := hw.arms.2 a haa
    refine ⟨⟨?_, fun r hr => ?_⟩, ?_, fun r hr => ?_⟩
    · show (a.links.map firstQ).length ≤ _
      rw [List.length_map]; exact hab.2.2.1
    · obtain ⟨l, hl, rfl⟩ := List.mem_map.1 hr
      have hlb := hab.2.2.2 l hl
      unfold firstQ maxQ minQ
      repeat' split
      all_goals first | exact hlb.2.1.fit (by decide) | exact hlb.2.2.1.fit (by decide) | exact zero_big
    · show (a.links.map fun _ => Nm.ofQ 0).length ≤ _
      rw [List.length_map]; exact hab.2.2.1
    · obtain ⟨l, hl, rfl⟩ := List.mem_map.1 hr
      exact zero_big
  · show ((List.range _).map _).length ≤ _
    simp; exact hw.parts.1
  · obtain ⟨i, _, rfl⟩ := List.mem_map.1 hx
    unfold firstP
    split
    · exact (okF_big (hs _ (List.getElem_mem _))).1
    · exact ⟨zero_big, zero_big, zero_big⟩
  · show (List.replicate _ _).length ≤ _
    rw [List.length_replicate]; exact hw.gates.1
theorem begun_facts (l : List Int) : (∀ a ∈ (worksM l).arms, armE a = 0) ∧ ∀ s ∈ (worksM l).slots, okF s.frame = true := by
  obtain ⟨c1, c2, c3, c4, c5⟩ := counts l
  refine ⟨armsS_ok (nA l) 0 (l.drop 1) (by omega), fun s hs => ?_⟩
  have h := (slotsS_ok (nS l) 0 ((l3 l).drop 1)).1 s hs
  simp only [Bool.and_eq_true] at h
  exact h.1.1.1
end Go.Proofs.YtfadociodcmhfaaGreatDoor
namespace Go.Proofs.YtfadociodcmhfaaGreatDoor
set_option linter.all false
open Go Go.RowKit Eng
set_option maxRecDepth 10000
set_option maxHeartbeats 8000000
theorem f_wsmall1 (v : Vt) (hv : Vb 17179869184 v) : FZ 184 [v.c] (.v (.bool (!okV v))) := by
  refine FSpecW.of fn_works_small_1 ok_works_small_1 (by exact Nat.le_of_ble_eq_true rfl) fun w O hw => ?_
  obtain ⟨x, y⟩ := v
  obtain ⟨b1, b2⟩ := hv
  simp only at b1 b2
  have h1 := f_good x (b1.mono (by decide))
  have h2 := f_good y (b2.mono (by decide))
  have h3 := f_small x b1
  have h4 := f_small y b2
  unfold okV
  simp only
  generalize decide x.goodP = q1 at *
  generalize decide y.goodP = q2 at *
  generalize smallB x = q3 at *
  generalize smallB y = q4 at *
  simp only [ir_works_small_1, frOf, TT, II, OA, OB, OC, MM, LL, VV, FF, MG, LG, VG, FG]
  simp only [Vt.c, Vt.enc, rc, sb] at *
  (repeat first | refine uA ?_ | (apply S.exit; exact rfl) | ((with_reducible refine And.intro ?_ ?_); focus first | omega | trivial | exact id | (intros; simp_all <;> omega)) | simp (disch := omega) only [go_sem, Nat.reduceBEq, Nat.reduceAdd, Nat.reduceLeDiff, Int.reduceToNat, Int.reducePow, ww] | (refine uD h1 ?_ ?_ ?_; exact tz hw; exact rfl) | (refine uD h2 ?_ ?_ ?_; exact tz hw; exact rfl) | (refine uD h3 ?_ ?_ ?_; exact tz hw; exact rfl) | (refine uD h4 ?_ ?_ ?_; exact tz hw; exact rfl))
  have e : (!(q1 && q2 && q3 && q4)) = (!q1 || !q2 || !q3 || !q4) := by cases q1 <;> cases q2 <;> cases q3 <;> cases q4 <;> rfl
  (try rw [e])
  exact S.done (RetOK.out rfl (Imp.refl rfl) rfl)
theorem f_wsmall (l : List Vt) (hl : Vbs 17179869184 l) : FZ 104 [vts l] (.v (.bool (l.all okV))) := by
  refine FSpecW.of fn_works_small ok_works_small (by exact Nat.le_of_ble_eq_true rfl) fun w O hw => ?_
  have h := f_hasVec 184 (by kernel_rfl) (fun v => !okV v) l (by have := hl.1; omega) (fun v hv => f_wsmall1 v (hl.2 v hv))
  have e : l.all okV = !l.any fun v => !okV v := by rw [List.not_any_eq_all_not]; simp
  rw [e]
  generalize (l.any fun v => !okV v) = q at *
  simp only [ir_works_small, frOf, TT, II, OA, OB, OC, MM, LL, VV, FF, MG, LG, VG, FG]
  simp only [vts] at *
  (repeat first | refine uA ?_ | (apply S.exit; exact rfl) | ((with_reducible refine And.intro ?_ ?_); focus first | omega | trivial | exact id | (intros; simp_all <;> omega)) | simp (disch := omega) only [go_sem, Nat.reduceBEq, Nat.reduceAdd, Nat.reduceLeDiff, Int.reduceToNat, Int.reducePow, ww] | (refine uD h ?_ ?_ ?_; exact tz hw; exact rfl))
  exact S.done (RetOK.out rfl (Imp.refl rfl) rfl)
theorem Vbs.one {k : Nat} {v : Vt} (h : 1 ≤ k) (h1 : Vb k v) : Vbs k [v] := ⟨h, fun x hx => by simp at hx; subst hx; exact h1⟩
theorem Vbs.two {k : Nat} {v u : Vt} (h : 2 ≤ k) (h1 : Vb k v) (h2 : Vb k u) : Vbs k [v, u] := ⟨h, fun x hx => by simp at hx; rcases hx with rfl | rfl <;> assumption⟩
theorem f_wframe (f : Fr) (hf : Fb 17179869184 f) : FZ 31 [f.c] (.v (.bool (okF f))) := by
  refine FSpecW.of fn_works_Frame ok_works_Frame (by exact Nat.le_of_ble_eq_true rfl) fun w O hw => ?_
  obtain ⟨x, y, half, t⟩ := f
  obtain ⟨b1, b2, b3⟩ := hf
  simp only at b1 b2 b3
  have h1 := f_wsmall [⟨x, y⟩] (Vbs.one (by decide) ⟨b1, b2⟩)
  rw [List.all_cons, List.all_nil, Bool.and_true] at h1
  have h2 := f_good t (b3.mono (by decide))
  have h3 := f_small t b3
  have h4 := f_rsign t b3
  unfold okF zeroT
  simp only
  generalize okV ⟨x, y⟩ = q1 at *
  generalize decide t.goodP = q2 at *
  generalize smallB t = q3 at *
  generalize signQ (Nm.fitQ t) = n at *
  simp only [ir_works_Frame, frOf, TT, II, OA, OB, OC, MM, LL, VV, FF, MG, LG, VG, FG]
  simp only [Fr.c, Fr.enc, vts, Vt.enc, rc, sb, ints, List.map_cons, List.map_nil] at *
  (repeat first | refine uA ?_ | (apply S.exit; exact rfl) | ((with_reducible refine And.intro ?_ ?_); focus first | omega | trivial | exact id | (intros; simp_all <;> omega)) | simp (disch := omega) only [go_sem, Nat.reduceBEq, Nat.reduceAdd, Nat.reduceLeDiff, Int.reduceToNat, Int.reducePow, ww] | (refine uD h2 ?_ ?_ ?_; exact tz hw; exact rfl) | (refine uD h3 ?_ ?_ ?_; exact tz hw; exact rfl) | (refine uD h4 ?_ ?_ ?_; exact tz hw; exact rfl) | (refine uE h1 ?_ ?_ ?_ ?_; exact tz hw; exact rfl; focus (repeat' first | exact ImpL.nil | exact Imp.refl rfl | exact Imp.frz rfl rfl rfl | (refine Imp.frzw rfl rfl ?_ ?_; (focus ((try simp only [List.length_append]); omega)); (focus first | rfl | assumption)) | refine ImpL.cons ?_ ?_); done))
  have e : (q1 && q2 && q3 && !(half && !decide (n = 0))) = (q1 && q2 && q3 && (!half || decide (n = 0))) := by cases q1 <;> cases q2 <;> cases q3 <;> cases half <;> simp
  rw [e]
  exact S.done (RetOK.out rfl (Imp.refl (by rfl)) rfl)
theorem f_wshape (l : List Vt) (hl : Vbs 1073741824 l) : FZ 61 [vts l] (ints (shapeE l)) := by
  refine FSpecW.of fn_works_shape ok_works_shape (by exact Nat.le_of_ble_eq_true rfl) fun w O hw => ?_
  have h1 := f_polyCheck l hl
  have h2 := f_wsmall l ⟨by have := hl.1; omega, fun v hv => (hl.2 v hv).mono (by decide)⟩
  unfold shapeE
  generalize polyE l 8 = e at *
  generalize l.all okV = q at *
  simp only [ir_works_shape, frOf, TT, II, OA, OB, OC, MM, LL, VV, FF, MG, LG, VG, FG]
  simp only [vts, ints] at *
  (repeat first | refine uA ?_ | (apply S.exit; exact rfl) | ((with_reducible refine And.intro ?_ ?_); focus first | omega | trivial | exact id | (intros; simp_all <;> omega)) | simp (disch := omega) only [go_sem, Nat.reduceBEq, Nat.reduceAdd, Nat.reduceLeDiff, Int.reduceToNat, Int.reducePow, ww] | (refine uD h1 ?_ ?_ ?_; exact tz hw; exact rfl))
  refine S.cond rfl (fun hc => ?_) (fun hc => ?_)
  · rw [if_pos (by simpa using hc)]
    (repeat first | refine uA ?_ | (apply S.exit; exact rfl) | ((with_reducible refine And.intro ?_ ?_); focus first | omega | trivial | exact id | (intros; simp_all <;> omega)) | simp (disch := omega) only [go_sem, Nat.reduceBEq, Nat.reduceAdd, Nat.reduceLeDiff, Int.reduceToNat, Int.reducePow, ww])
    exact S.done (RetOK.out rfl (Imp.refl rfl) rfl)
  rw [if_neg (by simpa using hc)]
  (repeat first | refine uA ?_ | (apply S.exit; exact rfl) | ((with_reducible refine And.intro ?_ ?_); focus first | omega | trivial | exact id | (intros; simp_all <;> omega)) | simp (disch := omega) only [go_sem, Nat.reduceBEq, Nat.reduceAdd, Nat.reduceLeDiff, Int.reduceToNat, Int.reducePow, ww] | (refine uD h2 ?_ ?_ ?_; exact tz hw; exact rfl))
  refine S.cond rfl (fun hc => ?_) (fun hc => ?_)
  · rw [if_neg (by simpa using hc)]
    (repeat first | refine uA ?_ | (apply S.exit; exact rfl) | ((with_reducible refine And.intro ?_ ?_); focus first | omega | trivial | exact id | (intros; simp_all <;> omega)) | simp (disch := omega) only [go_sem, Nat.reduceBEq, Nat.reduceAdd, Nat.reduceLeDiff, Int.reduceToNat, Int.reducePow, ww])
    exact S.done (RetOK.out rfl (Imp.refl rfl) rfl)
  · rw [if_pos (by simpa using hc)]
    (repeat first | refine uA ?_ | (apply S.exit; exact rfl) | ((with_reducible refine And.intro ?_ ?_); focus first | omega | trivial | exact id | (intros; simp_all <;> omega)) | simp (disch := omega) only [go_sem, Nat.reduceBEq, Nat.reduceAdd, Nat.reduceLeDiff, Int.reduceToNat, Int.reducePow, ww])
    exact S.done (RetOK.out rfl (Imp.refl rfl) rfl)
end Go.Proofs.YtfadociodcmhfaaGreatDoor
namespace Go.Proofs.YtfadociodcmhfaaGreatDoor.Eng
set_option linter.all false
open Go Go.RowKit
theorem CallT.ofT {E : Ctx} {eff : Nat → Bool} {f : Nat} {fn : Func} {ir : IFun} (ht : Tz E) (hf : E.P.funcs[f]? = some fn) (hc : compF eff E.P fn = some ir) {rs : List Res} {args : List C} {s : C} {rs' : List Res} {pk : List Nat} (hn : args.length ≤ ir.ntmps)
    (h : ∀ w own av ν, ν.length = rs.length → Tz ⟨E.P, eff, ir.ntmps, w, own, av, ν, pk⟩ → S ⟨E.P, eff, ir.ntmps, w, own, av, ν, pk⟩ (Fin E.P ir.results (OutO ⟨E.P, eff, ir.ntmps, w, own, av, ν, pk⟩ rs' s)) ⟨frOf 0 args, rs⟩ [.code ir.body]) : CallT E rs f args s rs' pk := by
  intro av ν w vs hR hav hF hD
  have hR' : RG av (owned rs ν) w.heap.size ν rs w := ⟨hR.len, hR.res, hR.dis, fun b hb => ⟨(hR.low b hb).1, (hR.low b hb).2.1, .inl hb⟩, hR.av, Nat.le_refl _⟩
  have ht' : Tz ⟨E.P, eff, ir.ntmps, w, owned rs ν, av, ν, pk⟩ := ⟨ht.at hF, fun ho => by
    rcases (hR.low _ ho).2.2 with h1 | h1
    · exact ht.2 h1
    · have := wz_lt ht.1; omega⟩
  refine (enterO (E := ⟨E.P, eff, ir.ntmps, w, owned rs ν, av, ν, pk⟩) hf hc rfl rfl hR.av rs hR' args hD hn (h w (owned rs ν) av ν hR.len ht')).mono ?_
  rintro e w' ⟨y, rfl, ν', h1, h2, h3, h4⟩
  refine ⟨y, ν', rfl, ⟨h1.len, h1.res, h1.dis, fun b hb => ?_, h1.av, Nat.le_trans hR.n0 h2.size⟩, ⟨h2.os, h2.tape, h2.output, h2.size, h2.block, fun b hb => (h1.low b hb).2.2, h3⟩, h4⟩
  obtain ⟨g1, g2, g3⟩ := h1.low b hb
  refine ⟨g1, g2, ?_⟩
  rcases g3 with g3 | g3
  · exact (hR.low b g3).2.2
  · exact .inr (Nat.le_trans hR.n0 g3)
def Res.shut : Res → Bool
  | .gone => false
  | .box _ cs => C.clL cs
  | .row _ _ _ => true
  | .map _ _ => true
theorem shut_ok {ν ν' : List Value} {w : World} {O O' : Nat → Prop} {x : Value} {r : Res} (hs : r.shut = true) (hO : ∀ b, O' b → O b) (h : ResOK ν w O x r) : ResOK ν' w O' x r := by
  cases r with
  | gone => cases hs
  | box t cs =>
    obtain ⟨b, vs, h1, h2, h3, h4⟩ := h
    exact ⟨b, vs, h1, (FzL.keep (Keeps.sub hO) (h2.fz hs)).den ν', h3, h4⟩
  | row e sz es => exact row_sub hO h
  | map s es => exact h
theorem shut_fp {r r' : Res} (hs : r.shut = true) {x : Value} {b : Nat} (h : fp r' x b) : fp r x b := by
  cases r <;> cases r' <;> first | exact False.elim h | exact h | (cases hs; done)
def at0 (k : Nat) : C → C
  | .mp 0 => .mp k
  | .bp 0 o => .bp k o
  | .rv 0 => .rv k
  | .bnd f (.mp 0) => .bnd f (.mp k)
  | c => c
def okA : C → Bool
  | .mp 0 => true
  | .bp 0 _ => true
  | .rv 0 => true
  | .bnd _ (.mp 0) => true
  | c => c.cl
theorem at0_den {ν : List Value} {w : World} {O O' : Nat → Prop} {k : Nat} {x : Value} (hk : ν[k]? = some x) (hO : ∀ b, O' b → O b) {c : C} {y : Value} (hc : okA c = true) (h : Den ν w O (at0 k c) y) : Den [x] w O' c y := by
  unfold okA at hc
  split at hc
  · simp only [at0, Den] at h ⊢
    rw [hk] at h
    exact h
  · simp only [at0, Den] at h ⊢
    rw [hk] at h
    exact h
  · simp only [at0, Den] at h ⊢
    rw [hk] at h
    exact h
  · simp only [at0, Den] at h ⊢
    rw [hk] at h
    exact h
  · rename_i c0 h1 h2 h3 h4
    have e : at0 k c = c := by
      cases c with
      | mp j => cases j with
        | zero => exact (h1 rfl).elim
        | succ j => rfl
      | bp j o => cases j with
        | zero => exact (h2 _ rfl).elim
        | succ j => rfl
      | rv j => cases j with
        | zero => exact (h3 rfl).elim
        | succ j => rfl
      | bnd g d => cases d with
        | mp j => cases j with
          | zero => exact (h4 _ rfl).elim
          | succ j => rfl
        | _ => rfl
      | _ => rfl
    rw [e] at h
    exact (Fz.keep (Keeps.sub hO) (h.fz hc)).den _
theorem at0_denL {ν : List Value} {w : World} {O O' : Nat → Prop} {k : Nat} {x : Value} (hk : ν[k]? = some x) (hO : ∀ b, O' b → O b) : ∀ {cs : List C} {vs : List Value}, cs.all okA = true → DenL ν w O (cs.map (at0 k)) vs → DenL [x] w O' cs vs
  | [], vs, _, h => by simpa only [List.map_nil, DenL] using h
  | c :: cs, vs, hc, h => by
    simp only [List.map_cons, DenL, List.all_cons, Bool.and_eq_true] at h hc ⊢
    obtain ⟨y, ys, e, h1, h2⟩ := h
    exact ⟨y, ys, e, at0_den hk hO hc.1 h1, at0_denL hk hO hc.2 h2⟩
theorem CallT.lift {E : Ctx} {rs : List Res} {k f : Nat} {args : List C} {s : C} {r r' : Res} (hk : rs[k]? = some r) (h : CallT E [r] f args s [r'] []) (hs : (r.shut && r'.shut) = true) (ha : args.all okA = true) (hc : s.cl = true) : CallT E rs f (args.map (at0 k)) s (rs.set k r') [] := by
  rw [Bool.and_eq_true] at hs
  intro av ν w vs hR hav hF hD
  obtain ⟨x, hx, hok⟩ := hR.res k r hk
  have hown : ∀ b, fp r x b → owned rs ν b := fun b hb => ⟨k, r, x, hk, hx, hb⟩
  have ho1 : ∀ (q : Res) b, owned [q] [x] b ↔ fp q x b := fun q b => by
    constructor
    · rintro ⟨l, q', y, h1, h2, h3⟩
      cases l with
      | zero => simp at h1 h2; subst h1 h2; exact h3
      | succ l => simp at h1
    · exact fun hb => ⟨0, q, x, rfl, rfl, hb⟩
  let av' : Nat → Prop := fun b => OO av rs ν b ∧ ¬ fp r x b
  have hOO : ∀ b, OO av' [r] [x] b → OO av rs ν b := fun b hb => by
    rcases hb with hb | hb
    · exact hb.1
    · exact .inr (hown b ((ho1 r b).1 hb))
  have hRG : RG av' E.own0 E.w0.heap.size [x] [r] w := by
    refine ⟨rfl, fun l q hq => ?_, fun l m q q' y y' b hne h1 h2 => ?_, fun b hb => ?_, fun b hb => ?_, hR.n0⟩
    · cases l with
      | zero => simp at hq; subst hq; exact ⟨x, rfl, shut_ok hs.1 hOO hok⟩
      | succ l => simp at hq
    · have e1 : l = 0 := by have := (List.getElem?_eq_some_iff.1 h1).1; simp at this; exact this
      have e2 : m = 0 := by have := (List.getElem?_eq_some_iff.1 h2).1; simp at this; exact this
      omega
    · have hb' := (ho1 r b).1 hb
      obtain ⟨g1, g2, g3⟩ := hR.low b (hown b hb')
      exact ⟨g1, fun h => h.2 hb', g3⟩
    · rcases hb.1 with h1 | h1
      · exact hR.av b h1
      · exact (hR.low b h1).1
  have hav' : ∀ b, E.av b → av' b := fun b hb => ⟨.inl (hav b hb), fun hf => (hR.low b (hown b hf)).2.1 (hav b hb)⟩
  have hD' : DenL [x] w (OO av' [r] [x]) args vs := at0_denL hx hOO ha hD
  refine (h av' [x] w vs hRG hav' hF hD').mono ?_
  rintro e w' ⟨y, ν', rfl, h1, h2, h3⟩
  have hν : ν' = [x] := by
    have hl := h1.len
    have h0 := h2.nu 0 x (fun hm => by cases hm) rfl
    match ν', hl, h0 with
    | [z], _, h0 => simp at h0; rw [h0]
  subst hν
  have hT : Turned w w' (fp r x) := ⟨h2.os, h2.tape, h2.output, h2.size, fun b hb hn => h2.block b hb fun ho => hn ((ho1 r b).1 ho)⟩
  have hOO' : ∀ b, OO av (rs.set k r') ν b → OO av' [r'] [x] b := fun b hb => by
    rcases hb with hb | ⟨l, q, z, hq, hz, hf⟩
    · exact .inl ⟨.inl hb, fun hf => (hR.low b (hown b hf)).2.1 hb⟩
    · by_cases e : k = l
      · subst e
        have hkl := (List.getElem?_eq_some_iff.1 hk).1
        rw [List.getElem?_set_self hkl] at hq
        rw [hx] at hz
        cases hq
        cases hz
        exact .inr ((ho1 r' b).2 hf)
      · rw [List.getElem?_set_ne e] at hq
        exact .inl ⟨.inr ⟨l, q, z, hq, hz, hf⟩, fun hf' => hR.dis k l r q x z b e hk hq hx hz hf' hf⟩
  have hup := hR.upd (r' := r') hk hx hT (fun b hb => shut_fp hs.1 hb) (fun _ => by
    obtain ⟨x', hx', hok'⟩ := h1.res 0 r' rfl
    simp at hx'
    subst hx'
    exact shut_ok hs.2 hOO' hok')
  exact ⟨y, ν, rfl, hup.1, hup.2, (Fz.keep (Keeps.sub hOO') (h3.fz hc)).den ν⟩
end Go.Proofs.YtfadociodcmhfaaGreatDoor.Eng
namespace Go.Proofs.YtfadociodcmhfaaGreatDoor
set_option linter.all false
open Go Go.RowKit Eng
set_option maxRecDepth 10000
set_option maxHeartbeats 8000000
theorem nm_lk (n : Nms) (s : List UInt8) : (mfind (.string (bs s)) (nmE n)).getD (.bool false) = .bool (n.contains s) := by
  rw [nm_find]; cases n.contains s <;> rfl
theorem h_add {E : Ctx} (hP : E.P = Tryz.prog) (n : Nms) (s : List UInt8) (hs : s.length ≤ 1099511627776) :
    CallT E [.map true (nmE n)] 58 [.mp 0, sb s] (ints (addE n s).1) [.map true (nmE (addE n s).2)] [] := by
  obtain ⟨P, eff', N, w0, own0, av0, nu0, pk0⟩ := E
  simp only at hP
  subst hP
  refine CallT.of (eff := eff) fn_works_named_add ok_works_named_add (by exact Nat.le_of_ble_eq_true rfl) fun w own av ν hν => ?_
  have hν0 : ν.length ≤ 1 := by rw [hν]; exact Nat.le_refl _
  have h1 := f_wname s hs
  have hk := nm_lk n s
  have hp := nm_put n s
  unfold addE
  generalize nameB s = q at *
  generalize n.contains s = c at *
  simp only [ir_works_named_add, frOf, TT, II, OA, OB, OC, MM, LL, VV, FF, MG, LG, VG, FG]
  simp only [sb, ints] at *
  (repeat first | refine uA ?_ | (apply S.exit; exact rfl) | ((with_reducible refine And.intro ?_ ?_); focus first | omega | trivial | exact id | (intros; simp_all <;> omega)) | simp (disch := omega) only [go_sem, Nat.reduceBEq, Nat.reduceAdd, Nat.reduceLeDiff, Int.reduceToNat, Int.reducePow, ww] | (refine uB h1 ?_ ?_; exact rfl))
  refine S.cond rfl (fun hc => ?_) (fun hc => ?_)
  · rw [if_pos (by simpa using hc)]
    (repeat first | refine uA ?_ | (apply S.exit; exact rfl) | ((with_reducible refine And.intro ?_ ?_); focus first | omega | trivial | exact id | (intros; simp_all <;> omega)) | simp (disch := omega) only [go_sem, Nat.reduceBEq, Nat.reduceAdd, Nat.reduceLeDiff, Int.reduceToNat, Int.reducePow, ww])
    (refine S.done ?_; simp only [retP, loadP, go_sem, Nat.reduceBEq, Nat.reduceAdd, Nat.reduceLeDiff, Int.reduceToNat, Int.reducePow]; (repeat (refine ⟨?_, ?_⟩; focus first | trivial | omega | simp)); exact RetOK.ownW (Imp.refl rfl) (by (repeat first | refine uA ?_ | (refine ⟨?_, ?_⟩; focus first | rfl | trivial | (simp [slot]; done)) | rfl | trivial | simp)) (Nat.le_trans hν0 (by simp)))
  rw [if_neg (by simpa using hc)]
  (repeat first | refine uA ?_ | (apply S.exit; exact rfl) | ((with_reducible refine And.intro ?_ ?_); focus first | omega | trivial | exact id | (intros; simp_all <;> omega)) | simp (disch := omega) only [go_sem, Nat.reduceBEq, Nat.reduceAdd, Nat.reduceLeDiff, Int.reduceToNat, Int.reducePow, ww, hk])
  refine S.cond rfl (fun hc => ?_) (fun hc => ?_)
  · rw [if_pos hc]
    (repeat first | refine uA ?_ | (apply S.exit; exact rfl) | ((with_reducible refine And.intro ?_ ?_); focus first | omega | trivial | exact id | (intros; simp_all <;> omega)) | simp (disch := omega) only [go_sem, Nat.reduceBEq, Nat.reduceAdd, Nat.reduceLeDiff, Int.reduceToNat, Int.reducePow, ww])
    (refine S.done ?_; simp only [retP, loadP, go_sem, Nat.reduceBEq, Nat.reduceAdd, Nat.reduceLeDiff, Int.reduceToNat, Int.reducePow]; (repeat (refine ⟨?_, ?_⟩; focus first | trivial | omega | simp)); exact RetOK.ownW (Imp.refl rfl) (by (repeat first | refine uA ?_ | (refine ⟨?_, ?_⟩; focus first | rfl | trivial | (simp [slot]; done)) | rfl | trivial | simp)) (Nat.le_trans hν0 (by simp)))
  · rw [if_neg (by rw [hc]; decide)]
    have hp := hp hc
    (repeat first | refine uA ?_ | (apply S.exit; exact rfl) | ((with_reducible refine And.intro ?_ ?_); focus first | omega | trivial | exact id | (intros; simp_all <;> omega)) | simp (disch := omega) only [go_sem, Nat.reduceBEq, Nat.reduceAdd, Nat.reduceLeDiff, Int.reduceToNat, Int.reducePow, ww, hp])
    (refine S.done ?_; simp only [retP, loadP, go_sem, Nat.reduceBEq, Nat.reduceAdd, Nat.reduceLeDiff, Int.reduceToNat, Int.reducePow]; (repeat (refine ⟨?_, ?_⟩; focus first | trivial | omega | simp)); exact RetOK.ownW (Imp.refl rfl) (by (repeat first | refine uA ?_ | (refine ⟨?_, ?_⟩; focus first | rfl | trivial | (simp [slot]; done)) | rfl | trivial | simp)) (Nat.le_trans hν0 (by simp)))
theorem h_part {E : Ctx} (hP : E.P = Tryz.prog) (ht0 : Tz E) (n : Nms) (p : Pt) (hb : Pb 1073741824 p) :
    CallT E [.map true (nmE n)] 63 [.mp 0, p.c] (ints (partS n p).1) [.map true (nmE (partS n p).2)] [] := by
  obtain ⟨P, eff', N, w0, own0, av0, nu0, pk0⟩ := E
  simp only at hP
  subst hP
  refine CallT.ofT (eff := eff) ht0 fn_works_named_part ok_works_named_part (by exact Nat.le_of_ble_eq_true rfl) fun w own av ν hν ht => ?_
  have hν0 : ν.length ≤ 1 := by rw [hν]; exact Nat.le_refl _
  obtain ⟨name, shape, ⟨x, y, half, t⟩⟩ := p
  obtain ⟨b0, b1, b2, b3, b4⟩ := hb
  simp only at b0 b1 b2 b3 b4
  have h1 := fun (E : Ctx) (hP : E.P = Tryz.prog) => h_add hP n name (by omega)
  have h2 := f_wshape shape b1
  have h3 := f_wframe ⟨x, y, half, t⟩ ⟨b2.mono (by decide), b3.mono (by decide), b4.mono (by decide)⟩
  unfold partS
  simp only
  generalize addE n name = r at *
  obtain ⟨e1, m⟩ := r
  generalize shapeE shape = e2 at *
  generalize okF ⟨x, y, half, t⟩ = q at *
  simp only [ir_works_named_part, frOf, TT, II, OA, OB, OC, MM, LL, VV, FF, MG, LG, VG, FG]
  simp only [Pt.c, Pt.enc, Fr.c, Fr.enc, vts, sb, ints] at *
  (repeat first | refine uA ?_ | (apply S.exit; exact rfl) | ((with_reducible refine And.intro ?_ ?_); focus first | omega | trivial | exact id | (intros; simp_all <;> omega)) | simp (disch := omega) only [go_sem, Nat.reduceBEq, Nat.reduceAdd, Nat.reduceLeDiff, Int.reduceToNat, Int.reducePow, ww] | refine CallOK.t (CallT.lift (k := 0) rfl (h1 _ rfl) rfl rfl rfl) ?_)
  refine S.cond rfl (fun hc => ?_) (fun hc => ?_)
  · rw [if_pos (by simpa using hc)]
    (repeat first | refine uA ?_ | (apply S.exit; exact rfl) | ((with_reducible refine And.intro ?_ ?_); focus first | omega | trivial | exact id | (intros; simp_all <;> omega)) | simp (disch := omega) only [go_sem, Nat.reduceBEq, Nat.reduceAdd, Nat.reduceLeDiff, Int.reduceToNat, Int.reducePow, ww])
    (refine S.done ?_; simp only [retP, loadP, go_sem, Nat.reduceBEq, Nat.reduceAdd, Nat.reduceLeDiff, Int.reduceToNat, Int.reducePow]; (repeat (refine ⟨?_, ?_⟩; focus first | trivial | omega | simp)); exact RetOK.ownW (Imp.refl rfl) (by (repeat first | refine uA ?_ | (refine ⟨?_, ?_⟩; focus first | rfl | trivial | (simp [slot]; done)) | rfl | trivial | simp)) (Nat.le_trans hν0 (by simp)))
  rw [if_neg (by simpa using hc)]
  (repeat first | refine uA ?_ | (apply S.exit; exact rfl) | ((with_reducible refine And.intro ?_ ?_); focus first | omega | trivial | exact id | (intros; simp_all <;> omega)) | simp (disch := omega) only [go_sem, Nat.reduceBEq, Nat.reduceAdd, Nat.reduceLeDiff, Int.reduceToNat, Int.reducePow, ww] | (refine uD h2 ?_ ?_ ?_; exact ht; exact rfl))
  refine S.cond rfl (fun hc => ?_) (fun hc => ?_)
  · rw [if_pos (by simpa using hc)]
    (repeat first | refine uA ?_ | (apply S.exit; exact rfl) | ((with_reducible refine And.intro ?_ ?_); focus first | omega | trivial | exact id | (intros; simp_all <;> omega)) | simp (disch := omega) only [go_sem, Nat.reduceBEq, Nat.reduceAdd, Nat.reduceLeDiff, Int.reduceToNat, Int.reducePow, ww])
    (refine S.done ?_; simp only [retP, loadP, go_sem, Nat.reduceBEq, Nat.reduceAdd, Nat.reduceLeDiff, Int.reduceToNat, Int.reducePow]; (repeat (refine ⟨?_, ?_⟩; focus first | trivial | omega | simp)); exact RetOK.ownW (Imp.refl rfl) (by (repeat first | refine uA ?_ | (refine ⟨?_, ?_⟩; focus first | rfl | trivial | (simp [slot]; done)) | rfl | trivial | simp)) (Nat.le_trans hν0 (by simp)))
  rw [if_neg (by simpa using hc)]
  (repeat first | refine uA ?_ | (apply S.exit; exact rfl) | ((with_reducible refine And.intro ?_ ?_); focus first | omega | trivial | exact id | (intros; simp_all <;> omega)) | simp (disch := omega) only [go_sem, Nat.reduceBEq, Nat.reduceAdd, Nat.reduceLeDiff, Int.reduceToNat, Int.reducePow, ww] | (refine uD h3 ?_ ?_ ?_; exact ht; exact rfl))
  refine S.cond rfl (fun hc => ?_) (fun hc => ?_)
  · rw [if_neg (by simpa using hc)]
    (repeat first | refine uA ?_ | (apply S.exit; exact rfl) | ((with_reducible refine And.intro ?_ ?_); focus first | omega | trivial | exact id | (intros; simp_all <;> omega)) | simp (disch := omega) only [go_sem, Nat.reduceBEq, Nat.reduceAdd, Nat.reduceLeDiff, Int.reduceToNat, Int.reducePow, ww])
    (refine S.done ?_; simp only [retP, loadP, go_sem, Nat.reduceBEq, Nat.reduceAdd, Nat.reduceLeDiff, Int.reduceToNat, Int.reducePow]; (repeat (refine ⟨?_, ?_⟩; focus first | trivial | omega | simp)); exact RetOK.ownW (Imp.refl rfl) (by (repeat first | refine uA ?_ | (refine ⟨?_, ?_⟩; focus first | rfl | trivial | (simp [slot]; done)) | rfl | trivial | simp)) (Nat.le_trans hν0 (by simp)))
  · rw [if_pos (by simpa using hc)]
    (repeat first | refine uA ?_ | (apply S.exit; exact rfl) | ((with_reducible refine And.intro ?_ ?_); focus first | omega | trivial | exact id | (intros; simp_all <;> omega)) | simp (disch := omega) only [go_sem, Nat.reduceBEq, Nat.reduceAdd, Nat.reduceLeDiff, Int.reduceToNat, Int.reducePow, ww])
    (refine S.done ?_; simp only [retP, loadP, go_sem, Nat.reduceBEq, Nat.reduceAdd, Nat.reduceLeDiff, Int.reduceToNat, Int.reducePow]; (repeat (refine ⟨?_, ?_⟩; focus first | trivial | omega | simp)); exact RetOK.ownW (Imp.refl rfl) (by (repeat first | refine uA ?_ | (refine ⟨?_, ?_⟩; focus first | rfl | trivial | (simp [slot]; done)) | rfl | trivial | simp)) (Nat.le_trans hν0 (by simp)))
theorem h_slot {E : Ctx} (hP : E.P = Tryz.prog) (ht0 : Tz E) (n : Nms) (s : Sl) (hb : Sb 1073741824 s) :
    CallT E [.map true (nmE n)] 65 [.mp 0, s.c] (ints (slotS n s).1) [.map true (nmE (slotS n s).2)] [] := by
  obtain ⟨P, eff', N, w0, own0, av0, nu0, pk0⟩ := E
  simp only at hP
  subst hP
  refine CallT.ofT (eff := eff) ht0 fn_works_named_slot ok_works_named_slot (by exact Nat.le_of_ble_eq_true rfl) fun w own av ν hν ht => ?_
  have hν0 : ν.length ≤ 1 := by rw [hν]; exact Nat.le_refl _
  obtain ⟨name, ⟨x, y, half, t⟩, within⟩ := s
  obtain ⟨b0, ⟨b2, b3, b4⟩, b5⟩ := hb
  simp only at b0 b2 b3 b4 b5
  have h1 := fun (E : Ctx) (hP : E.P = Tryz.prog) => h_add hP n name (by omega)
  have h3 := f_wframe ⟨x, y, half, t⟩ ⟨b2.mono (by decide), b3.mono (by decide), b4.mono (by decide)⟩
  have h4 := f_good within (b5.mono (by decide))
  have h5 := f_small within (b5.mono (by decide))
  have h6 := f_rsign within (b5.mono (by decide))
  unfold slotS
  simp only
  generalize addE n name = r at *
  obtain ⟨e1, m⟩ := r
  generalize okF ⟨x, y, half, t⟩ = q1 at *
  generalize decide within.goodP = q2 at *
  generalize smallB within = q3 at *
  generalize signQ (Nm.fitQ within) = n4 at *
  simp only [ir_works_named_slot, frOf, TT, II, OA, OB, OC, MM, LL, VV, FF, MG, LG, VG, FG]
  simp only [Sl.c, Sl.enc, Fr.c, Fr.enc, vts, rc, sb, ints] at *
  (repeat first | refine uA ?_ | (apply S.exit; exact rfl) | ((with_reducible refine And.intro ?_ ?_); focus first | omega | trivial | exact id | (intros; simp_all <;> omega)) | simp (disch := omega) only [go_sem, Nat.reduceBEq, Nat.reduceAdd, Nat.reduceLeDiff, Int.reduceToNat, Int.reducePow, ww] | refine CallOK.t (CallT.lift (k := 0) rfl (h1 _ rfl) rfl rfl rfl) ?_)
  refine S.cond rfl (fun hc => ?_) (fun hc => ?_)
  · rw [if_pos (by simpa using hc)]
    (repeat first | refine uA ?_ | (apply S.exit; exact rfl) | ((with_reducible refine And.intro ?_ ?_); focus first | omega | trivial | exact id | (intros; simp_all <;> omega)) | simp (disch := omega) only [go_sem, Nat.reduceBEq, Nat.reduceAdd, Nat.reduceLeDiff, Int.reduceToNat, Int.reducePow, ww])
    (refine S.done ?_; simp only [retP, loadP, go_sem, Nat.reduceBEq, Nat.reduceAdd, Nat.reduceLeDiff, Int.reduceToNat, Int.reducePow]; (repeat (refine ⟨?_, ?_⟩; focus first | trivial | omega | simp)); exact RetOK.ownW (Imp.refl rfl) (by (repeat first | refine uA ?_ | (refine ⟨?_, ?_⟩; focus first | rfl | trivial | (simp [slot]; done)) | rfl | trivial | simp)) (Nat.le_trans hν0 (by simp)))
  rw [if_neg (by simpa using hc)]
  (repeat first | refine uA ?_ | (apply S.exit; exact rfl) | ((with_reducible refine And.intro ?_ ?_); focus first | omega | trivial | exact id | (intros; simp_all <;> omega)) | simp (disch := omega) only [go_sem, Nat.reduceBEq, Nat.reduceAdd, Nat.reduceLeDiff, Int.reduceToNat, Int.reducePow, ww] | (refine uD h3 ?_ ?_ ?_; exact ht; exact rfl) | (refine uD h4 ?_ ?_ ?_; exact ht; exact rfl) | (refine uD h5 ?_ ?_ ?_; exact ht; exact rfl) | (refine uD h6 ?_ ?_ ?_; exact ht; exact rfl))
  refine S.cond rfl (fun hc => ?_) (fun hc => ?_)
  · rw [if_neg (by simp only [Bool.or_eq_true, Bool.not_eq_true', decide_eq_true_eq] at hc; simp only [Bool.and_eq_true, decide_eq_true_eq]; rintro ⟨⟨⟨h7, h8⟩, h9⟩, h10⟩; rcases hc with ((hc | hc) | hc) | hc <;> first | (rw [hc] at h7; cases h7; done) | (rw [hc] at h8; cases h8; done) | (rw [hc] at h9; cases h9; done) | omega)]
    (repeat first | refine uA ?_ | (apply S.exit; exact rfl) | ((with_reducible refine And.intro ?_ ?_); focus first | omega | trivial | exact id | (intros; simp_all <;> omega)) | simp (disch := omega) only [go_sem, Nat.reduceBEq, Nat.reduceAdd, Nat.reduceLeDiff, Int.reduceToNat, Int.reducePow, ww])
    (refine S.done ?_; simp only [retP, loadP, go_sem, Nat.reduceBEq, Nat.reduceAdd, Nat.reduceLeDiff, Int.reduceToNat, Int.reducePow]; (repeat (refine ⟨?_, ?_⟩; focus first | trivial | omega | simp)); exact RetOK.ownW (Imp.refl rfl) (by (repeat first | refine uA ?_ | (refine ⟨?_, ?_⟩; focus first | rfl | trivial | (simp [slot]; done)) | rfl | trivial | simp)) (Nat.le_trans hν0 (by simp)))
  · rw [if_pos (by simp only [Bool.or_eq_false_iff, Bool.not_eq_false', decide_eq_false_iff_not] at hc; simp only [Bool.and_eq_true, decide_eq_true_eq]; obtain ⟨⟨⟨h7, h8⟩, h9⟩, h10⟩ := hc; exact ⟨⟨⟨h7, h8⟩, h9⟩, by omega⟩)]
    (repeat first | refine uA ?_ | (apply S.exit; exact rfl) | ((with_reducible refine And.intro ?_ ?_); focus first | omega | trivial | exact id | (intros; simp_all <;> omega)) | simp (disch := omega) only [go_sem, Nat.reduceBEq, Nat.reduceAdd, Nat.reduceLeDiff, Int.reduceToNat, Int.reducePow, ww])
    (refine S.done ?_; simp only [retP, loadP, go_sem, Nat.reduceBEq, Nat.reduceAdd, Nat.reduceLeDiff, Int.reduceToNat, Int.reducePow]; (repeat (refine ⟨?_, ?_⟩; focus first | trivial | omega | simp)); exact RetOK.ownW (Imp.refl rfl) (by (repeat first | refine uA ?_ | (refine ⟨?_, ?_⟩; focus first | rfl | trivial | (simp [slot]; done)) | rfl | trivial | simp)) (Nat.le_trans hν0 (by simp)))
theorem h_gate {E : Ctx} (hP : E.P = Tryz.prog) (ht0 : Tz E) (n : Nms) (g : Gt) (hb : Gb 1073741824 g) :
    CallT E [.map true (nmE n)] 67 [.mp 0, g.c] (ints (gateS n g).1) [.map true (nmE (gateS n g).2)] [] := by
  obtain ⟨P, eff', N, w0, own0, av0, nu0, pk0⟩ := E
  simp only at hP
  subst hP
  refine CallT.ofT (eff := eff) ht0 fn_works_named_gate ok_works_named_gate (by exact Nat.le_of_ble_eq_true rfl) fun w own av ν hν ht => ?_
  have hν0 : ν.length ≤ 1 := by rw [hν]; exact Nat.le_refl _
  obtain ⟨name, ⟨lx, ly⟩, ⟨hx, hy⟩⟩ := g
  obtain ⟨b0, ⟨b1, b2⟩, ⟨b3, b4⟩⟩ := hb
  simp only at b0 b1 b2 b3 b4
  have h1 := fun (E : Ctx) (hP : E.P = Tryz.prog) => h_add hP n name (by omega)
  have h3 := f_wsmall [⟨lx, ly⟩, ⟨hx, hy⟩] (Vbs.two (by decide) ⟨b1.mono (by decide), b2.mono (by decide)⟩ ⟨b3.mono (by decide), b4.mono (by decide)⟩)
  rw [all_two] at h3
  have h4 := f_rcmp lx hx (b1.mono (by decide)) (b3.mono (by decide))
  have h5 := f_rcmp ly hy (b2.mono (by decide)) (b4.mono (by decide))
  unfold gateS
  simp only
  generalize addE n name = r at *
  obtain ⟨e1, m⟩ := r
  generalize (okV ⟨lx, ly⟩ && okV ⟨hx, hy⟩) = q1 at *
  generalize Nm.cmpQ (Nm.fitQ lx) (Nm.fitQ hx) = n1 at *
  generalize Nm.cmpQ (Nm.fitQ ly) (Nm.fitQ hy) = n2 at *
  simp only [ir_works_named_gate, frOf, TT, II, OA, OB, OC, MM, LL, VV, FF, MG, LG, VG, FG]
  simp only [Gt.c, Gt.enc, vts, Vt.enc, rc, sb, ints, List.map_cons, List.map_nil] at *
  (repeat first | refine uA ?_ | (apply S.exit; exact rfl) | ((with_reducible refine And.intro ?_ ?_); focus first | omega | trivial | exact id | (intros; simp_all <;> omega)) | simp (disch := omega) only [go_sem, Nat.reduceBEq, Nat.reduceAdd, Nat.reduceLeDiff, Int.reduceToNat, Int.reducePow, ww] | refine CallOK.t (CallT.lift (k := 0) rfl (h1 _ rfl) rfl rfl rfl) ?_)
  refine S.cond rfl (fun hc => ?_) (fun hc => ?_)
  · rw [if_pos (by simpa using hc)]
    (repeat first | refine uA ?_ | (apply S.exit; exact rfl) | ((with_reducible refine And.intro ?_ ?_); focus first | omega | trivial | exact id | (intros; simp_all <;> omega)) | simp (disch := omega) only [go_sem, Nat.reduceBEq, Nat.reduceAdd, Nat.reduceLeDiff, Int.reduceToNat, Int.reducePow, ww])
    (refine S.done ?_; simp only [retP, loadP, go_sem, Nat.reduceBEq, Nat.reduceAdd, Nat.reduceLeDiff, Int.reduceToNat, Int.reducePow]; (repeat (refine ⟨?_, ?_⟩; focus first | trivial | omega | simp)); exact RetOK.ownW (Imp.refl rfl) (by (repeat first | refine uA ?_ | (refine ⟨?_, ?_⟩; focus first | rfl | trivial | (simp [slot]; done)) | rfl | trivial | simp)) (Nat.le_trans hν0 (by simp)))
  rw [if_neg (by simpa using hc)]
  (repeat first | refine uA ?_ | (apply S.exit; exact rfl) | ((with_reducible refine And.intro ?_ ?_); focus first | omega | trivial | exact id | (intros; simp_all <;> omega)) | simp (disch := omega) only [go_sem, Nat.reduceBEq, Nat.reduceAdd, Nat.reduceLeDiff, Int.reduceToNat, Int.reducePow, ww] | (refine uD h4 ?_ ?_ ?_; exact ht; exact rfl) | (refine uD h5 ?_ ?_ ?_; exact ht; exact rfl) | (refine uE h3 ?_ ?_ ?_ ?_; exact ht; exact rfl; focus (repeat' first | exact ImpL.nil | exact Imp.refl rfl | exact Imp.frz rfl rfl rfl | (refine Imp.frzw rfl rfl ?_ ?_; (focus ((try simp only [List.length_append]); omega)); (focus first | rfl | assumption)) | refine ImpL.cons ?_ ?_); done))
  refine S.cond rfl (fun hc => ?_) (fun hc => ?_)
  · rw [if_neg (by simp only [Bool.or_eq_true, Bool.not_eq_true', decide_eq_true_eq] at hc; simp only [Bool.and_eq_true, decide_eq_true_eq]; rintro ⟨⟨h7, h8⟩, h9⟩; rcases hc with (hc | hc) | hc <;> first | (rw [hc] at h7; cases h7; done) | omega)]
    (repeat first | refine uA ?_ | (apply S.exit; exact rfl) | ((with_reducible refine And.intro ?_ ?_); focus first | omega | trivial | exact id | (intros; simp_all <;> omega)) | simp (disch := omega) only [go_sem, Nat.reduceBEq, Nat.reduceAdd, Nat.reduceLeDiff, Int.reduceToNat, Int.reducePow, ww])
    (refine S.done ?_; simp only [retP, loadP, go_sem, Nat.reduceBEq, Nat.reduceAdd, Nat.reduceLeDiff, Int.reduceToNat, Int.reducePow]; (repeat (refine ⟨?_, ?_⟩; focus first | trivial | omega | simp)); exact RetOK.ownW (Imp.refl rfl) (by (repeat first | refine uA ?_ | (refine ⟨?_, ?_⟩; focus first | rfl | trivial | (simp [slot]; done)) | rfl | trivial | simp)) (Nat.le_trans hν0 (by simp)))
  · rw [if_pos (by simp only [Bool.or_eq_false_iff, Bool.not_eq_false', decide_eq_false_iff_not] at hc; simp only [Bool.and_eq_true, decide_eq_true_eq]; obtain ⟨⟨h7, h8⟩, h9⟩ := hc; exact ⟨⟨h7, by omega⟩, by omega⟩)]
    (repeat first | refine uA ?_ | (apply S.exit; exact rfl) | ((with_reducible refine And.intro ?_ ?_); focus first | omega | trivial | exact id | (intros; simp_all <;> omega)) | simp (disch := omega) only [go_sem, Nat.reduceBEq, Nat.reduceAdd, Nat.reduceLeDiff, Int.reduceToNat, Int.reducePow, ww])
    (refine S.done ?_; simp only [retP, loadP, go_sem, Nat.reduceBEq, Nat.reduceAdd, Nat.reduceLeDiff, Int.reduceToNat, Int.reducePow]; (repeat (refine ⟨?_, ?_⟩; focus first | trivial | omega | simp)); exact RetOK.ownW (Imp.refl rfl) (by (repeat first | refine uA ?_ | (refine ⟨?_, ?_⟩; focus first | rfl | trivial | (simp [slot]; done)) | rfl | trivial | simp)) (Nat.le_trans hν0 (by simp)))
end Go.Proofs.YtfadociodcmhfaaGreatDoor
namespace Go.Proofs.YtfadociodcmhfaaGreatDoor
set_option linter.all false
open Go Go.RowKit Eng
set_option maxRecDepth 10000
set_option maxHeartbeats 8000000
theorem h_eachPart {E : Ctx} (hP : E.P = Tryz.prog) (ht0 : Tz E) (n : Nms) (l : List Pt) (hn : l.length ≤ 1073741824) (hb : ∀ x ∈ l, Pb 1073741824 x) :
    CallT E [.map true (nmE n)] 62 [pts l, .bnd 63 (.mp 0)] (ints (eachE partS n l).1) [.map true (nmE (eachE partS n l).2)] [] := by
  obtain ⟨P, eff', N, w0, own0, av0, nu0, pk0⟩ := E
  simp only at hP
  subst hP
  refine CallT.ofT (eff := eff) ht0 fn_works_each_api_Part ok_works_each_api_Part (by exact Nat.le_of_ble_eq_true rfl) fun w own av ν hν ht => ?_
  have hν0 : ν.length ≤ 1 := by rw [hν]; exact Nat.le_refl _
  simp only [ir_works_each_api_Part, frOf, TT, II, OA, OB, OC, MM, LL, VV, FF, MG, LG, VG, FG, pts, ints]
  (repeat first | refine uA ?_ | (apply S.exit; exact rfl) | ((with_reducible refine And.intro ?_ ?_); focus first | omega | trivial | exact id | (intros; simp_all <;> omega)) | simp (disch := omega) only [go_sem, Nat.reduceBEq, Nat.reduceAdd, Nat.reduceLeDiff, Int.reduceToNat, Int.reducePow, ww, List.length_map])
  refine S.loop (X := Nat × Nms) (fun x => ⟨[(1, .bnd 63 (.mp 0)), (8, pts l), (9, ints l.length), (10, ints x.1)], [.map true (nmE x.2)]⟩) (fun x => x.1 ≤ l.length ∧ eachE partS n l = eachE partS x.2 (l.drop x.1)) (fun x => l.length - x.1) (0, n) ⟨Nat.zero_le _, rfl⟩ (by (repeat first | refine uA ?_ | (refine ⟨?_, ?_⟩; focus first | rfl | trivial | (simp [slot]; done)) | rfl | trivial | simp | exact Nat.le_trans hν0 (by simp))) ?_
  rintro ⟨i, m⟩ ⟨hi, hg⟩
  simp only [pts, ints] at hi hg ⊢
  (repeat first | refine uA ?_ | (apply S.exit; exact rfl) | ((with_reducible refine And.intro ?_ ?_); focus first | omega | trivial | exact id | (intros; simp_all <;> omega)) | simp (disch := omega) only [go_sem, Nat.reduceBEq, Nat.reduceAdd, Nat.reduceLeDiff, Int.reduceToNat, Int.reducePow, ww])
  (refine uJ rfl (fun hc => ?_) fun hc => ?_)
  · have hi' : i < l.length := by omega
    have hgi := List.getElem?_eq_getElem hi'
    generalize l[i] = x at hgi
    have hst := eachE_stop (f := partS) (s := m) hgi
    have hnx := eachE_next (f := partS) (s := m) hgi
    have hs := fun (E : Ctx) (hP : E.P = Tryz.prog) (ht : Tz E) => h_part hP ht m x (hb x (List.mem_of_getElem? hgi))
    generalize partS m x = r at *
    obtain ⟨e, m'⟩ := r
    simp only [Pt.c, Pt.enc, vts, sb, ints] at hs hst hnx
    (repeat first | refine uA ?_ | (apply S.exit; exact rfl) | ((with_reducible refine And.intro ?_ ?_); focus first | omega | trivial | exact id | (intros; simp_all <;> omega)) | simp (disch := omega) only [go_sem, Nat.reduceBEq, Nat.reduceAdd, Nat.reduceLeDiff, Int.reduceToNat, Int.reducePow, ww, hgi, Option.map_some, List.length_map, Pt.c, Pt.enc, vts, sb] | refine CallOK.t (CallT.lift (k := 0) rfl (hs _ rfl ht) rfl rfl rfl) ?_)
    refine S.cond rfl (fun hc2 => ?_) (fun hc2 => ?_)
    · rw [hg, hst (by simpa using hc2)]
      (repeat first | refine uA ?_ | (apply S.exit; exact rfl) | ((with_reducible refine And.intro ?_ ?_); focus first | omega | trivial | exact id | (intros; simp_all <;> omega)) | simp (disch := omega) only [go_sem, Nat.reduceBEq, Nat.reduceAdd, Nat.reduceLeDiff, Int.reduceToNat, Int.reducePow, ww])
      (refine S.done ?_; simp only [retP, loadP, go_sem, Nat.reduceBEq, Nat.reduceAdd, Nat.reduceLeDiff, Int.reduceToNat, Int.reducePow]; (repeat (refine ⟨?_, ?_⟩; focus first | trivial | omega | simp)); exact RetOK.ownW (Imp.refl rfl) (by (repeat first | refine uA ?_ | (refine ⟨?_, ?_⟩; focus first | rfl | trivial | (simp [slot]; done)) | rfl | trivial | simp)) (Nat.le_trans hν0 (by simp)))
    · have hc3 : e = 0 := by simpa using hc2
      (repeat first | refine uA ?_ | (apply S.exit; exact rfl) | ((with_reducible refine And.intro ?_ ?_); focus first | omega | trivial | exact id | (intros; simp_all <;> omega)) | simp (disch := omega) only [go_sem, Nat.reduceBEq, Nat.reduceAdd, Nat.reduceLeDiff, Int.reduceToNat, Int.reducePow, ww])
      refine S.next (x := (i, m)) (i + 1, m') ⟨by simp only; omega, by simp only; rw [hg, hnx hc3]⟩ (by simp only; omega) (by (repeat first | refine uA ?_ | (refine ⟨?_, ?_⟩; focus first | rfl | trivial | (simp [slot]; done)) | rfl | trivial | simp | exact Nat.le_trans hν0 (by simp)))
  · rw [hg, eachE_end (by omega)]
    (repeat first | refine uA ?_ | (apply S.exit; exact rfl) | ((with_reducible refine And.intro ?_ ?_); focus first | omega | trivial | exact id | (intros; simp_all <;> omega)) | simp (disch := omega) only [go_sem, Nat.reduceBEq, Nat.reduceAdd, Nat.reduceLeDiff, Int.reduceToNat, Int.reducePow, ww])
    (refine S.done ?_; simp only [retP, loadP, go_sem, Nat.reduceBEq, Nat.reduceAdd, Nat.reduceLeDiff, Int.reduceToNat, Int.reducePow]; (repeat (refine ⟨?_, ?_⟩; focus first | trivial | omega | simp)); exact RetOK.ownW (Imp.refl rfl) (by (repeat first | refine uA ?_ | (refine ⟨?_, ?_⟩; focus first | rfl | trivial | (simp [slot]; done)) | rfl | trivial | simp)) (Nat.le_trans hν0 (by simp)))
theorem h_eachSlot {E : Ctx} (hP : E.P = Tryz.prog) (ht0 : Tz E) (n : Nms) (l : List Sl) (hn : l.length ≤ 1073741824) (hb : ∀ x ∈ l, Sb 1073741824 x) :
    CallT E [.map true (nmE n)] 64 [sls l, .bnd 65 (.mp 0)] (ints (eachE slotS n l).1) [.map true (nmE (eachE slotS n l).2)] [] := by
  obtain ⟨P, eff', N, w0, own0, av0, nu0, pk0⟩ := E
  simp only at hP
  subst hP
  refine CallT.ofT (eff := eff) ht0 fn_works_each_api_Slot ok_works_each_api_Slot (by exact Nat.le_of_ble_eq_true rfl) fun w own av ν hν ht => ?_
  have hν0 : ν.length ≤ 1 := by rw [hν]; exact Nat.le_refl _
  simp only [ir_works_each_api_Slot, frOf, TT, II, OA, OB, OC, MM, LL, VV, FF, MG, LG, VG, FG, sls, ints]
  (repeat first | refine uA ?_ | (apply S.exit; exact rfl) | ((with_reducible refine And.intro ?_ ?_); focus first | omega | trivial | exact id | (intros; simp_all <;> omega)) | simp (disch := omega) only [go_sem, Nat.reduceBEq, Nat.reduceAdd, Nat.reduceLeDiff, Int.reduceToNat, Int.reducePow, ww, List.length_map])
  refine S.loop (X := Nat × Nms) (fun x => ⟨[(1, .bnd 65 (.mp 0)), (8, sls l), (9, ints l.length), (10, ints x.1)], [.map true (nmE x.2)]⟩) (fun x => x.1 ≤ l.length ∧ eachE slotS n l = eachE slotS x.2 (l.drop x.1)) (fun x => l.length - x.1) (0, n) ⟨Nat.zero_le _, rfl⟩ (by (repeat first | refine uA ?_ | (refine ⟨?_, ?_⟩; focus first | rfl | trivial | (simp [slot]; done)) | rfl | trivial | simp | exact Nat.le_trans hν0 (by simp))) ?_
  rintro ⟨i, m⟩ ⟨hi, hg⟩
  simp only [sls, ints] at hi hg ⊢
  (repeat first | refine uA ?_ | (apply S.exit; exact rfl) | ((with_reducible refine And.intro ?_ ?_); focus first | omega | trivial | exact id | (intros; simp_all <;> omega)) | simp (disch := omega) only [go_sem, Nat.reduceBEq, Nat.reduceAdd, Nat.reduceLeDiff, Int.reduceToNat, Int.reducePow, ww])
  (refine uJ rfl (fun hc => ?_) fun hc => ?_)
  · have hi' : i < l.length := by omega
    have hgi := List.getElem?_eq_getElem hi'
    generalize l[i] = x at hgi
    have hst := eachE_stop (f := slotS) (s := m) hgi
    have hnx := eachE_next (f := slotS) (s := m) hgi
    have hs := fun (E : Ctx) (hP : E.P = Tryz.prog) (ht : Tz E) => h_slot hP ht m x (hb x (List.mem_of_getElem? hgi))
    generalize slotS m x = r at *
    obtain ⟨e, m'⟩ := r
    simp only [Sl.c, Sl.enc, sb, ints] at hs hst hnx
    (repeat first | refine uA ?_ | (apply S.exit; exact rfl) | ((with_reducible refine And.intro ?_ ?_); focus first | omega | trivial | exact id | (intros; simp_all <;> omega)) | simp (disch := omega) only [go_sem, Nat.reduceBEq, Nat.reduceAdd, Nat.reduceLeDiff, Int.reduceToNat, Int.reducePow, ww, hgi, Option.map_some, List.length_map, Sl.c, Sl.enc, sb] | refine CallOK.t (CallT.lift (k := 0) rfl (hs _ rfl ht) rfl rfl rfl) ?_)
    refine S.cond rfl (fun hc2 => ?_) (fun hc2 => ?_)
    · rw [hg, hst (by simpa using hc2)]
      (repeat first | refine uA ?_ | (apply S.exit; exact rfl) | ((with_reducible refine And.intro ?_ ?_); focus first | omega | trivial | exact id | (intros; simp_all <;> omega)) | simp (disch := omega) only [go_sem, Nat.reduceBEq, Nat.reduceAdd, Nat.reduceLeDiff, Int.reduceToNat, Int.reducePow, ww])
      (refine S.done ?_; simp only [retP, loadP, go_sem, Nat.reduceBEq, Nat.reduceAdd, Nat.reduceLeDiff, Int.reduceToNat, Int.reducePow]; (repeat (refine ⟨?_, ?_⟩; focus first | trivial | omega | simp)); exact RetOK.ownW (Imp.refl rfl) (by (repeat first | refine uA ?_ | (refine ⟨?_, ?_⟩; focus first | rfl | trivial | (simp [slot]; done)) | rfl | trivial | simp)) (Nat.le_trans hν0 (by simp)))
    · have hc3 : e = 0 := by simpa using hc2
      (repeat first | refine uA ?_ | (apply S.exit; exact rfl) | ((with_reducible refine And.intro ?_ ?_); focus first | omega | trivial | exact id | (intros; simp_all <;> omega)) | simp (disch := omega) only [go_sem, Nat.reduceBEq, Nat.reduceAdd, Nat.reduceLeDiff, Int.reduceToNat, Int.reducePow, ww])
      refine S.next (x := (i, m)) (i + 1, m') ⟨by simp only; omega, by simp only; rw [hg, hnx hc3]⟩ (by simp only; omega) (by (repeat first | refine uA ?_ | (refine ⟨?_, ?_⟩; focus first | rfl | trivial | (simp [slot]; done)) | rfl | trivial | simp | exact Nat.le_trans hν0 (by simp)))
  · rw [hg, eachE_end (by omega)]
    (repeat first | refine uA ?_ | (apply S.exit; exact rfl) | ((with_reducible refine And.intro ?_ ?_); focus first | omega | trivial | exact id | (intros; simp_all <;> omega)) | simp (disch := omega) only [go_sem, Nat.reduceBEq, Nat.reduceAdd, Nat.reduceLeDiff, Int.reduceToNat, Int.reducePow, ww])
    (refine S.done ?_; simp only [retP, loadP, go_sem, Nat.reduceBEq, Nat.reduceAdd, Nat.reduceLeDiff, Int.reduceToNat, Int.reducePow]; (repeat (refine ⟨?_, ?_⟩; focus first | trivial | omega | simp)); exact RetOK.ownW (Imp.refl rfl) (by (repeat first | refine uA ?_ | (refine ⟨?_, ?_⟩; focus first | rfl | trivial | (simp [slot]; done)) | rfl | trivial | simp)) (Nat.le_trans hν0 (by simp)))
theorem h_eachGate {E : Ctx} (hP : E.P = Tryz.prog) (ht0 : Tz E) (n : Nms) (l : List Gt) (hn : l.length ≤ 1073741824) (hb : ∀ x ∈ l, Gb 1073741824 x) :
    CallT E [.map true (nmE n)] 66 [gts l, .bnd 67 (.mp 0)] (ints (eachE gateS n l).1) [.map true (nmE (eachE gateS n l).2)] [] := by
  obtain ⟨P, eff', N, w0, own0, av0, nu0, pk0⟩ := E
  simp only at hP
  subst hP
  refine CallT.ofT (eff := eff) ht0 fn_works_each_api_Gate ok_works_each_api_Gate (by exact Nat.le_of_ble_eq_true rfl) fun w own av ν hν ht => ?_
  have hν0 : ν.length ≤ 1 := by rw [hν]; exact Nat.le_refl _
  simp only [ir_works_each_api_Gate, frOf, TT, II, OA, OB, OC, MM, LL, VV, FF, MG, LG, VG, FG, gts, ints]
  (repeat first | refine uA ?_ | (apply S.exit; exact rfl) | ((with_reducible refine And.intro ?_ ?_); focus first | omega | trivial | exact id | (intros; simp_all <;> omega)) | simp (disch := omega) only [go_sem, Nat.reduceBEq, Nat.reduceAdd, Nat.reduceLeDiff, Int.reduceToNat, Int.reducePow, ww, List.length_map])
  refine S.loop (X := Nat × Nms) (fun x => ⟨[(1, .bnd 67 (.mp 0)), (8, gts l), (9, ints l.length), (10, ints x.1)], [.map true (nmE x.2)]⟩) (fun x => x.1 ≤ l.length ∧ eachE gateS n l = eachE gateS x.2 (l.drop x.1)) (fun x => l.length - x.1) (0, n) ⟨Nat.zero_le _, rfl⟩ (by (repeat first | refine uA ?_ | (refine ⟨?_, ?_⟩; focus first | rfl | trivial | (simp [slot]; done)) | rfl | trivial | simp | exact Nat.le_trans hν0 (by simp))) ?_
  rintro ⟨i, m⟩ ⟨hi, hg⟩
  simp only [gts, ints] at hi hg ⊢
  (repeat first | refine uA ?_ | (apply S.exit; exact rfl) | ((with_reducible refine And.intro ?_ ?_); focus first | omega | trivial | exact id | (intros; simp_all <;> omega)) | simp (disch := omega) only [go_sem, Nat.reduceBEq, Nat.reduceAdd, Nat.reduceLeDiff, Int.reduceToNat, Int.reducePow, ww])
  (refine uJ rfl (fun hc => ?_) fun hc => ?_)
  · have hi' : i < l.length := by omega
    have hgi := List.getElem?_eq_getElem hi'
    generalize l[i] = x at hgi
    have hst := eachE_stop (f := gateS) (s := m) hgi
    have hnx := eachE_next (f := gateS) (s := m) hgi
    have hs := fun (E : Ctx) (hP : E.P = Tryz.prog) (ht : Tz E) => h_gate hP ht m x (hb x (List.mem_of_getElem? hgi))
    generalize gateS m x = r at *
    obtain ⟨e, m'⟩ := r
    simp only [Gt.c, Gt.enc, sb, ints] at hs hst hnx
    (repeat first | refine uA ?_ | (apply S.exit; exact rfl) | ((with_reducible refine And.intro ?_ ?_); focus first | omega | trivial | exact id | (intros; simp_all <;> omega)) | simp (disch := omega) only [go_sem, Nat.reduceBEq, Nat.reduceAdd, Nat.reduceLeDiff, Int.reduceToNat, Int.reducePow, ww, hgi, Option.map_some, List.length_map, Gt.c, Gt.enc, sb] | refine CallOK.t (CallT.lift (k := 0) rfl (hs _ rfl ht) rfl rfl rfl) ?_)
    refine S.cond rfl (fun hc2 => ?_) (fun hc2 => ?_)
    · rw [hg, hst (by simpa using hc2)]
      (repeat first | refine uA ?_ | (apply S.exit; exact rfl) | ((with_reducible refine And.intro ?_ ?_); focus first | omega | trivial | exact id | (intros; simp_all <;> omega)) | simp (disch := omega) only [go_sem, Nat.reduceBEq, Nat.reduceAdd, Nat.reduceLeDiff, Int.reduceToNat, Int.reducePow, ww])
      (refine S.done ?_; simp only [retP, loadP, go_sem, Nat.reduceBEq, Nat.reduceAdd, Nat.reduceLeDiff, Int.reduceToNat, Int.reducePow]; (repeat (refine ⟨?_, ?_⟩; focus first | trivial | omega | simp)); exact RetOK.ownW (Imp.refl rfl) (by (repeat first | refine uA ?_ | (refine ⟨?_, ?_⟩; focus first | rfl | trivial | (simp [slot]; done)) | rfl | trivial | simp)) (Nat.le_trans hν0 (by simp)))
    · have hc3 : e = 0 := by simpa using hc2
      (repeat first | refine uA ?_ | (apply S.exit; exact rfl) | ((with_reducible refine And.intro ?_ ?_); focus first | omega | trivial | exact id | (intros; simp_all <;> omega)) | simp (disch := omega) only [go_sem, Nat.reduceBEq, Nat.reduceAdd, Nat.reduceLeDiff, Int.reduceToNat, Int.reducePow, ww])
      refine S.next (x := (i, m)) (i + 1, m') ⟨by simp only; omega, by simp only; rw [hg, hnx hc3]⟩ (by simp only; omega) (by (repeat first | refine uA ?_ | (refine ⟨?_, ?_⟩; focus first | rfl | trivial | (simp [slot]; done)) | rfl | trivial | simp | exact Nat.le_trans hν0 (by simp)))
  · rw [hg, eachE_end (by omega)]
    (repeat first | refine uA ?_ | (apply S.exit; exact rfl) | ((with_reducible refine And.intro ?_ ?_); focus first | omega | trivial | exact id | (intros; simp_all <;> omega)) | simp (disch := omega) only [go_sem, Nat.reduceBEq, Nat.reduceAdd, Nat.reduceLeDiff, Int.reduceToNat, Int.reducePow, ww])
    (refine S.done ?_; simp only [retP, loadP, go_sem, Nat.reduceBEq, Nat.reduceAdd, Nat.reduceLeDiff, Int.reduceToNat, Int.reducePow]; (repeat (refine ⟨?_, ?_⟩; focus first | trivial | omega | simp)); exact RetOK.ownW (Imp.refl rfl) (by (repeat first | refine uA ?_ | (refine ⟨?_, ?_⟩; focus first | rfl | trivial | (simp [slot]; done)) | rfl | trivial | simp)) (Nat.le_trans hν0 (by simp)))
theorem f_eachWall (l : List (List Vt)) (hn : l.length ≤ 1073741824) (hb : ∀ x ∈ l, Vbs 1073741824 x) : FZ 60 [wls l, .v (.func (.func 61) #[] #[])] (ints (firstE shapeE l)) := by
  refine FSpecW.of fn_works_each_api_Vec ok_works_each_api_Vec (by exact Nat.le_of_ble_eq_true rfl) fun w O hw => ?_
  have hcal : callable Tryz.prog 61 = true := by kernel_rfl
  simp only [ir_works_each_api_Vec, frOf, TT, II, OA, OB, OC, MM, LL, VV, FF, MG, LG, VG, FG, wls, ints]
  (repeat first | refine uA ?_ | (apply S.exit; exact rfl) | ((with_reducible refine And.intro ?_ ?_); focus first | omega | trivial | exact id | (intros; simp_all <;> omega)) | simp (disch := omega) only [go_sem, Nat.reduceBEq, Nat.reduceAdd, Nat.reduceLeDiff, Int.reduceToNat, Int.reducePow, ww, List.length_map])
  refine S.loop (X := Nat) (fun i => ⟨[(1, .v (.func (.func 61) #[] #[])), (8, wls l), (9, ints l.length), (10, ints i)], []⟩) (fun i => i ≤ l.length ∧ firstE shapeE l = firstE shapeE (l.drop i)) (fun i => l.length - i) 0 ⟨Nat.zero_le _, rfl⟩ (by (repeat first | refine uA ?_ | (refine ⟨?_, ?_⟩; focus first | rfl | trivial | (simp [slot]; done)) | rfl | trivial | simp)) ?_
  rintro i ⟨hi, hg⟩
  simp only [wls, ints] at hi hg ⊢
  (repeat first | refine uA ?_ | (apply S.exit; exact rfl) | ((with_reducible refine And.intro ?_ ?_); focus first | omega | trivial | exact id | (intros; simp_all <;> omega)) | simp (disch := omega) only [go_sem, Nat.reduceBEq, Nat.reduceAdd, Nat.reduceLeDiff, Int.reduceToNat, Int.reducePow, ww])
  (refine uJ rfl (fun hc => ?_) fun hc => ?_)
  · have hi' : i < l.length := by omega
    have hgi := List.getElem?_eq_getElem hi'
    generalize l[i] = x at hgi
    have hst := firstE_stop (f := shapeE) hgi
    have hnx := firstE_next (f := shapeE) hgi
    have hs := f_wshape x (hb x (List.mem_of_getElem? hgi))
    generalize shapeE x = e at *
    simp only [ints] at hs
    (repeat first | refine uA ?_ | (apply S.exit; exact rfl) | ((with_reducible refine And.intro ?_ ?_); focus first | omega | trivial | exact id | (intros; simp_all <;> omega)) | simp (disch := omega) only [go_sem, Nat.reduceBEq, Nat.reduceAdd, Nat.reduceLeDiff, Int.reduceToNat, Int.reducePow, ww, hgi, Option.map_some, List.length_map, hcal] | (refine uD hs ?_ ?_ ?_; exact tz hw; exact rfl))
    refine S.cond rfl (fun hc2 => ?_) (fun hc2 => ?_)
    · rw [hg, hst (by simpa using hc2)]
      (repeat first | refine uA ?_ | (apply S.exit; exact rfl) | ((with_reducible refine And.intro ?_ ?_); focus first | omega | trivial | exact id | (intros; simp_all <;> omega)) | simp (disch := omega) only [go_sem, Nat.reduceBEq, Nat.reduceAdd, Nat.reduceLeDiff, Int.reduceToNat, Int.reducePow, ww])
      exact S.done (RetOK.out rfl (Imp.refl rfl) rfl)
    · have hc3 : e = 0 := by simpa using hc2
      (repeat first | refine uA ?_ | (apply S.exit; exact rfl) | ((with_reducible refine And.intro ?_ ?_); focus first | omega | trivial | exact id | (intros; simp_all <;> omega)) | simp (disch := omega) only [go_sem, Nat.reduceBEq, Nat.reduceAdd, Nat.reduceLeDiff, Int.reduceToNat, Int.reducePow, ww])
      refine S.next (i + 1) ⟨by omega, by rw [hg, hnx hc3]⟩ (by omega) (by (repeat first | refine uA ?_ | (refine ⟨?_, ?_⟩; focus first | rfl | trivial | (simp [slot]; done)) | rfl | trivial | simp))
  · rw [hg, firstE_end (by omega)]
    (repeat first | refine uA ?_ | (apply S.exit; exact rfl) | ((with_reducible refine And.intro ?_ ?_); focus first | omega | trivial | exact id | (intros; simp_all <;> omega)) | simp (disch := omega) only [go_sem, Nat.reduceBEq, Nat.reduceAdd, Nat.reduceLeDiff, Int.reduceToNat, Int.reducePow, ww])
    exact S.done (RetOK.out rfl (Imp.refl rfl) rfl)
end Go.Proofs.YtfadociodcmhfaaGreatDoor
namespace Go.Proofs.YtfadociodcmhfaaGreatDoor.Eng
set_option linter.all false
open Go Go.RowKit
def Res.bdr (n : Nat) : Res → Bool
  | .box _ cs => C.bdL n cs
  | _ => true
theorem bdr_ok {ν : List Value} {w : World} {O O' : Nat → Prop} {x : Value} {r : Res} {n : Nat} (hs : r.bdr n = true) (hO : ∀ b, O' b → O b) (h : ResOK ν w O x r) : ResOK (ν.take n) w O' x r := by
  cases r with
  | gone => exact h
  | box t cs =>
    obtain ⟨b, vs, h1, h2, h3, h4⟩ := h
    exact ⟨b, vs, h1, DenL.keep (Keeps.sub hO) (DenL.takeν n hs h2), h3, h4⟩
  | row e sz es => exact row_sub hO h
  | map s es => exact h
theorem nu_ok {ν ν' : List Value} {w : World} {O O' : Nat → Prop} {x : Value} {r : Res} (hn : NuLe [] ν ν') (hO : ∀ b, O' b → O b) (h : ResOK ν w O x r) : ResOK ν' w O' x r := by
  cases r with
  | gone => exact h
  | box t cs =>
    obtain ⟨b, vs, h1, h2, h3, h4⟩ := h
    exact ⟨b, vs, h1, DenL.keep (Keeps.sub hO) (DenL.nu hn (fun k hk => by cases hk) h2), h3, h4⟩
  | row e sz es => exact row_sub hO h
  | map s es => exact h
theorem NuLe.take (ν : List Value) (n : Nat) : NuLe [] (ν.take n) ν := fun _ _ _ h => get_take h
theorem nu_eq {ν ν' : List Value} (h : NuLe [] ν ν') (hl : ν'.length = ν.length) : ν' = ν := by
  apply List.ext_getElem?
  intro i
  rcases Nat.lt_or_ge i ν.length with h1 | h1
  · have := h i _ (fun hk => by cases hk) (List.getElem?_eq_getElem h1)
    rw [this, List.getElem?_eq_getElem h1]
  · rw [List.getElem?_eq_none h1, List.getElem?_eq_none (by omega)]
theorem owned_app {rs ext : List Res} {ν : List Value} (hl : ν.length = (rs ++ ext).length) (b : Nat) : owned (rs ++ ext) ν b ↔ owned rs (ν.take rs.length) b ∨ ∃ k r x, ext[k]? = some r ∧ ν[rs.length + k]? = some x ∧ fp r x b := by
  constructor
  · rintro ⟨k, r, x, h1, h2, h3⟩
    rcases Nat.lt_or_ge k rs.length with h | h
    · rw [List.getElem?_append_left h] at h1
      exact .inl ⟨k, r, x, h1, take_get h h2, h3⟩
    · rw [List.getElem?_append_right h] at h1
      exact .inr ⟨k - rs.length, r, x, h1, by rw [show rs.length + (k - rs.length) = k by omega]; exact h2, h3⟩
  · rintro (⟨k, r, x, h1, h2, h3⟩ | ⟨k, r, x, h1, h2, h3⟩)
    · have h := (List.getElem?_eq_some_iff.1 h1).1
      exact ⟨k, r, x, by rw [List.getElem?_append_left h]; exact h1, get_take h2, h3⟩
    · exact ⟨rs.length + k, r, x, by rw [List.getElem?_append_right (by omega), show rs.length + k - rs.length = k by omega]; exact h1, h2, h3⟩
theorem CallT.ext {E : Ctx} {rs rs' : List Res} (ex : List Res) {f : Nat} {args : List C} {s : C} (h : CallT E rs f args s rs' []) (hl : rs'.length = rs.length) (hb : rs.all (Res.bdr rs.length) = true) (ha : C.bdL rs.length args = true) : CallT E (rs ++ ex) f args s (rs' ++ ex) [] := by
  intro av ν w vs hR hav hF hD
  have hlen := hR.len
  have hl1 : (ν.take rs.length).length = rs.length := by rw [List.length_take, hlen, List.length_append]; omega
  generalize hν1 : ν.take rs.length = ν1 at hl1
  have hown := fun b => owned_app hlen b
  rw [hν1] at hown
  have hx : ∀ b k r x, ex[k]? = some r → ν[rs.length + k]? = some x → fp r x b → ¬ owned rs ν1 b := by
    rintro b k r x h1 h2 h3 ⟨l, q, y, g1, g2, g3⟩
    have hlt := (List.getElem?_eq_some_iff.1 g1).1
    rw [← hν1] at g2
    exact hR.dis l (rs.length + k) q r y x b (by omega) (by rw [List.getElem?_append_left hlt]; exact g1) (by rw [List.getElem?_append_right (by omega), show rs.length + k - rs.length = k by omega]; exact h1) (get_take g2) h2 g3 h3
  let av' : Nat → Prop := fun b => OO av (rs ++ ex) ν b ∧ ¬ owned rs ν1 b
  have hOO : ∀ b, OO av' rs ν1 b → OO av (rs ++ ex) ν b := fun b hb => by
    rcases hb with hb | hb
    · exact hb.1
    · exact .inr ((hown b).2 (.inl hb))
  have hRG : RG av' E.own0 E.w0.heap.size ν1 rs w := by
    refine ⟨hl1, fun k r hk => ?_, fun l m q q' y y' b hne h1 h2 h3 h4 => ?_, fun b hb => ?_, fun b hb => ?_, hR.n0⟩
    · have hlt := (List.getElem?_eq_some_iff.1 hk).1
      obtain ⟨x, hx, hok⟩ := hR.res k r (by rw [List.getElem?_append_left hlt]; exact hk)
      refine ⟨x, by rw [← hν1]; exact take_get hlt hx, ?_⟩
      rw [← hν1]
      rw [List.all_eq_true] at hb
      exact bdr_ok (hb r (List.mem_of_getElem? hk)) (by rw [hν1]; exact hOO) hok
    · have g1 := (List.getElem?_eq_some_iff.1 h1).1
      have g2 := (List.getElem?_eq_some_iff.1 h2).1
      rw [← hν1] at h3 h4
      exact hR.dis l m q q' y y' b hne (by rw [List.getElem?_append_left g1]; exact h1) (by rw [List.getElem?_append_left g2]; exact h2) (get_take h3) (get_take h4)
    · obtain ⟨g1, g2, g3⟩ := hR.low b ((hown b).2 (.inl hb))
      exact ⟨g1, fun h => h.2 hb, g3⟩
    · rcases hb.1 with h1 | h1
      · exact hR.av b h1
      · exact (hR.low b h1).1
  have hnav : ∀ b, av b → ¬ owned rs ν1 b := fun b hb ho => (hR.low b ((hown b).2 (.inl ho))).2.1 hb
  have hD' : DenL ν1 w (OO av' rs ν1) args vs := by
    have := DenL.keep (Keeps.sub hOO) (DenL.takeν rs.length ha hD)
    rwa [hν1] at this
  refine (h av' ν1 w vs hRG (fun b hb => ⟨.inl (hav b hb), hnav b (hav b hb)⟩) hF hD').mono ?_
  rintro e w' ⟨y, ν', rfl, h1, h2, h3⟩
  have hν' : ν' = ν1 := nu_eq h2.nu (by rw [h1.len, hl, hl1])
  subst hν'
  have hlen' : ν.length = (rs' ++ ex).length := by rw [hlen, List.length_append, List.length_append, hl]
  have hν1' : ν.take rs'.length = ν' := by rw [hl]; exact hν1
  have hown' := fun b => owned_app hlen' b
  rw [hν1', hl] at hown'
  have hnu : NuLe [] ν' ν := by rw [← hν1]; exact NuLe.take ν _
  have hxo : ∀ b k r x, ex[k]? = some r → ν[rs.length + k]? = some x → fp r x b → owned (rs ++ ex) ν b := fun b k r x g1 g2 g3 => (hown b).2 (.inr ⟨k, r, x, g1, g2, g3⟩)
  have hOO' : ∀ b, OO av (rs' ++ ex) ν b → OO av' rs' ν' b := fun b hb => by
    rcases hb with hb | hb
    · exact .inl ⟨.inl hb, hnav b hb⟩
    · rcases (hown' b).1 hb with hb | ⟨k, r, x, g1, g2, g3⟩
      · exact .inr hb
      · exact .inl ⟨.inr (hxo b k r x g1 g2 g3), hx b k r x g1 g2 g3⟩
  have hM : Mv (rs ++ ex) ν w [] (rs' ++ ex) ν w' := by
    refine ⟨h2.os, h2.tape, h2.output, h2.size, fun b hb hn => h2.block b hb fun ho => hn ((hown b).2 (.inl ho)), fun b hb => ?_, fun _ _ _ h => h⟩
    rcases (hown' b).1 hb with hb | ⟨k, r, x, g1, g2, g3⟩
    · rcases h2.own b hb with g | g
      · exact .inl ((hown b).2 (.inl g))
      · exact .inr g
    · exact .inl (hxo b k r x g1 g2 g3)
  refine ⟨y, ν, rfl, ⟨hlen', fun k r hk => ?_, fun l m q q' z z' b hne g1 g2 g3 g4 g5 => ?_, fun b hb => ?_, fun b hb => Nat.lt_of_lt_of_le (hR.av b hb) h2.size, Nat.le_trans hR.n0 h2.size⟩, hM, Den.keep (Keeps.sub hOO') (Den.nu hnu (fun k hk => by cases hk) h3)⟩
  · rcases Nat.lt_or_ge k rs'.length with hlt | hge
    · rw [List.getElem?_append_left hlt] at hk
      obtain ⟨x, hx', hok⟩ := h1.res k r hk
      exact ⟨x, hnu k x (fun hk => by cases hk) hx', nu_ok hnu hOO' hok⟩
    · have hk' : (rs ++ ex)[k]? = some r := by
        rw [List.getElem?_append_right hge] at hk
        rw [List.getElem?_append_right (by omega), ← hl]; exact hk
      obtain ⟨x, hx', hok⟩ := hR.res k r hk'
      refine ⟨x, hx', ?_⟩
      have := hok.mv (O' := OO av (rs' ++ ex) ν) (hM.keeps (av := av)) hM.nu (fun b hf => h2.block b (hR.lt hk' hx' hf) (by
        rw [List.getElem?_append_right hge] at hk
        exact hx b (k - rs'.length) r x hk (by rw [show rs.length + (k - rs'.length) = k by omega]; exact hx') hf))
      rwa [purge_nil1] at this
  · rcases Nat.lt_or_ge l rs'.length with hl1' | hl1' <;> rcases Nat.lt_or_ge m rs'.length with hm1 | hm1
    · rw [List.getElem?_append_left hl1'] at g1
      rw [List.getElem?_append_left hm1] at g2
      have e1 : ν'[l]? = some z := by rw [← hν1']; exact take_get hl1' g3
      have e2 : ν'[m]? = some z' := by rw [← hν1']; exact take_get hm1 g4
      exact h1.dis l m q q' z z' b hne g1 g2 e1 e2 g5
    · rw [List.getElem?_append_left hl1'] at g1
      rw [List.getElem?_append_right hm1] at g2
      have e1 : ν'[l]? = some z := by rw [← hν1']; exact take_get hl1' g3
      have g4' : ν[rs.length + (m - rs'.length)]? = some z' := by rw [show rs.length + (m - rs'.length) = m by omega]; exact g4
      intro hf
      rcases h2.own b ⟨l, q, z, g1, e1, g5⟩ with ho | ho
      · exact hx b _ q' z' g2 g4' hf ho
      · have := (hR.low b (hxo b _ q' z' g2 g4' hf)).1; omega
    · rw [List.getElem?_append_right hl1'] at g1
      rw [List.getElem?_append_left hm1] at g2
      have e2 : ν'[m]? = some z' := by rw [← hν1']; exact take_get hm1 g4
      have g3' : ν[rs.length + (l - rs'.length)]? = some z := by rw [show rs.length + (l - rs'.length) = l by omega]; exact g3
      intro hf
      rcases h2.own b ⟨m, q', z', g2, e2, hf⟩ with ho | ho
      · exact hx b _ q z g1 g3' g5 ho
      · have := (hR.low b (hxo b _ q z g1 g3' g5)).1; omega
    · rw [List.getElem?_append_right hl1'] at g1
      rw [List.getElem?_append_right hm1] at g2
      exact hR.dis l m q q' z z' b hne (by rw [List.getElem?_append_right (by omega), ← hl]; exact g1) (by rw [List.getElem?_append_right (by omega), ← hl]; exact g2) g3 g4 g5
  · rcases (hown' b).1 hb with hb | ⟨k, r, x, g1, g2, g3⟩
    · obtain ⟨a1, a2, a3⟩ := h1.low b hb
      exact ⟨a1, fun ha => a2 ⟨.inl ha, hnav b ha⟩, a3⟩
    · obtain ⟨a1, a2, a3⟩ := hR.low b (hxo b k r x g1 g2 g3)
      exact ⟨Nat.lt_of_lt_of_le a1 h2.size, a2, a3⟩
end Go.Proofs.YtfadociodcmhfaaGreatDoor.Eng
namespace Go.Proofs.YtfadociodcmhfaaGreatDoor
set_option linter.all false
open Go Go.RowKit Eng
set_option maxRecDepth 10000
set_option maxHeartbeats 8000000
def rsW (w : Wk) (n : Nms) : List Res := [.box 31 w.enc, .map true (nmE n), .box 117 [.mp 1]]
theorem h_check1 {E : Ctx} (hP : E.P = Tryz.prog) (ht0 : Tz E) (w : Wk) (n : Nms) (a : Am) (hb : Ab 1073741824 a) :
    CallT E (rsW w n) 56 [a.c, .bp 2 0] (ints (armS n a).1) (rsW w (armS n a).2) [] := by
  obtain ⟨P, eff', N, w0, own0, av0, nu0, pk0⟩ := E
  simp only at hP
  subst hP
  refine CallT.ofT (eff := eff) ht0 fn_works_Check_1 ok_works_Check_1 (by exact Nat.le_of_ble_eq_true rfl) fun w' own av ν hν ht => ?_
  have hν0 : ν.length ≤ 3 := by rw [hν]; exact Nat.le_refl _
  have b0 := hb.1
  have h2 := f_armE a hb
  have h1 := fun (E : Ctx) (hP : E.P = Tryz.prog) => h_add hP n a.name (by omega)
  unfold armS
  generalize addE n a.name = r at *
  obtain ⟨e1, m⟩ := r
  generalize armE a = e2 at *
  obtain ⟨name, ⟨x, y, half, t⟩, links⟩ := a
  obtain ⟨arms, walls, parts, slots, gates, walk⟩ := w
  simp only [ir_works_Check_1, frOf, TT, II, OA, OB, OC, MM, LL, VV, FF, MG, LG, VG, FG]
  simp only [Am.c, Am.enc, lks, sb, ints, rsW, Wk.enc, ams, wls, pts, sls, gts] at *
  (repeat first | refine uA ?_ | (apply S.exit; exact rfl) | ((with_reducible refine And.intro ?_ ?_); focus first | omega | trivial | exact id | (intros; simp_all <;> omega)) | simp (disch := omega) only [go_sem, Nat.reduceBEq, Nat.reduceAdd, Nat.reduceLeDiff, Int.reduceToNat, Int.reducePow, ww] | (refine uD h2 ?_ ?_ ?_; exact ht; exact rfl))
  refine S.cond rfl (fun hc => ?_) (fun hc => ?_)
  · rw [if_pos (by simpa using hc)]
    (repeat first | refine uA ?_ | (apply S.exit; exact rfl) | ((with_reducible refine And.intro ?_ ?_); focus first | omega | trivial | exact id | (intros; simp_all <;> omega)) | simp (disch := omega) only [go_sem, Nat.reduceBEq, Nat.reduceAdd, Nat.reduceLeDiff, Int.reduceToNat, Int.reducePow, ww])
    (refine S.done ?_; simp only [retP, loadP, go_sem, Nat.reduceBEq, Nat.reduceAdd, Nat.reduceLeDiff, Int.reduceToNat, Int.reducePow]; (repeat (refine ⟨?_, ?_⟩; focus first | trivial | omega | simp)); exact RetOK.ownW (Imp.refl rfl) (by (repeat first | refine uA ?_ | (refine ⟨?_, ?_⟩; focus first | rfl | trivial | (simp [slot]; done)) | rfl | trivial | simp)) (Nat.le_trans hν0 (by simp)))
  rw [if_neg (by simpa using hc)]
  (repeat first | refine uA ?_ | (apply S.exit; exact rfl) | ((with_reducible refine And.intro ?_ ?_); focus first | omega | trivial | exact id | (intros; simp_all <;> omega)) | simp (disch := omega) only [go_sem, Nat.reduceBEq, Nat.reduceAdd, Nat.reduceLeDiff, Int.reduceToNat, Int.reducePow, ww] | refine CallOK.t (CallT.lift (k := 1) rfl (h1 _ rfl) rfl rfl rfl) ?_)
  (refine S.done ?_; simp only [retP, loadP, go_sem, Nat.reduceBEq, Nat.reduceAdd, Nat.reduceLeDiff, Int.reduceToNat, Int.reducePow]; (repeat (refine ⟨?_, ?_⟩; focus first | trivial | omega | simp)); exact RetOK.ownW (Imp.refl rfl) (by (repeat first | refine uA ?_ | (refine ⟨?_, ?_⟩; focus first | rfl | trivial | (simp [slot]; done)) | rfl | trivial | simp)) (Nat.le_trans hν0 (by simp)))
theorem h_eachArm {E : Ctx} (hP : E.P = Tryz.prog) (ht0 : Tz E) (w : Wk) (n : Nms) (l : List Am) (hn : l.length ≤ 1073741824) (hb : ∀ x ∈ l, Ab 1073741824 x) :
    CallT E (rsW w n) 59 [ams l, .clo 56 [.bp 2 0]] (ints (eachE armS n l).1) (rsW w (eachE armS n l).2) [] := by
  obtain ⟨P, eff', N, w0, own0, av0, nu0, pk0⟩ := E
  simp only at hP
  subst hP
  refine CallT.ofT (eff := eff) ht0 fn_works_each_api_Arm ok_works_each_api_Arm (by exact Nat.le_of_ble_eq_true rfl) fun w' own av ν hν ht => ?_
  have hν0 : ν.length ≤ 3 := by rw [hν]; exact Nat.le_refl _
  have hcal : callable Tryz.prog 56 = true := by kernel_rfl
  simp only [ir_works_each_api_Arm, frOf, TT, II, OA, OB, OC, MM, LL, VV, FF, MG, LG, VG, FG, ams, ints]
  simp only [rsW, Wk.enc, ams, wls, pts, sls, gts]
  (repeat first | refine uA ?_ | (apply S.exit; exact rfl) | ((with_reducible refine And.intro ?_ ?_); focus first | omega | trivial | exact id | (intros; simp_all <;> omega)) | simp (disch := omega) only [go_sem, Nat.reduceBEq, Nat.reduceAdd, Nat.reduceLeDiff, Int.reduceToNat, Int.reducePow, ww, List.length_map])
  refine S.loop (X := Nat × Nms) (fun x => ⟨[(1, .clo 56 [.bp 2 0]), (8, ams l), (9, ints l.length), (10, ints x.1)], rsW w x.2⟩) (fun x => x.1 ≤ l.length ∧ eachE armS n l = eachE armS x.2 (l.drop x.1)) (fun x => l.length - x.1) (0, n) ⟨Nat.zero_le _, rfl⟩ (by simp only [rsW, Wk.enc, ams, wls, pts, sls, gts]; exact (by (repeat first | refine uA ?_ | (refine ⟨?_, ?_⟩; focus first | rfl | trivial | (simp [slot]; done)) | rfl | trivial | simp | exact Nat.le_trans hν0 (by simp)))) ?_
  rintro ⟨i, m⟩ ⟨hi, hg⟩
  simp only [ams, ints, rsW, Wk.enc, wls, pts, sls, gts] at hi hg ⊢
  (repeat first | refine uA ?_ | (apply S.exit; exact rfl) | ((with_reducible refine And.intro ?_ ?_); focus first | omega | trivial | exact id | (intros; simp_all <;> omega)) | simp (disch := omega) only [go_sem, Nat.reduceBEq, Nat.reduceAdd, Nat.reduceLeDiff, Int.reduceToNat, Int.reducePow, ww])
  (refine uJ rfl (fun hc => ?_) fun hc => ?_)
  · have hi' : i < l.length := by omega
    have hgi := List.getElem?_eq_getElem hi'
    generalize l[i] = x at hgi
    have hst := eachE_stop (f := armS) (s := m) hgi
    have hnx := eachE_next (f := armS) (s := m) hgi
    have hs := fun (E : Ctx) (hP : E.P = Tryz.prog) (ht : Tz E) => h_check1 hP ht w m x (hb x (List.mem_of_getElem? hgi))
    generalize armS m x = r at *
    obtain ⟨e, m'⟩ := r
    simp only [Am.c, Am.enc, lks, sb, ints, rsW, Wk.enc, ams, wls, pts, sls, gts] at hs hst hnx
    (repeat first | refine uA ?_ | (apply S.exit; exact rfl) | ((with_reducible refine And.intro ?_ ?_); focus first | omega | trivial | exact id | (intros; simp_all <;> omega)) | simp (disch := omega) only [go_sem, Nat.reduceBEq, Nat.reduceAdd, Nat.reduceLeDiff, Int.reduceToNat, Int.reducePow, ww, hgi, Option.map_some, List.length_map, Am.enc, lks, sb, hcal] | refine CallOK.t (CallT.ext _ (hs _ rfl ht) rfl rfl rfl) ?_)
    refine S.cond rfl (fun hc2 => ?_) (fun hc2 => ?_)
    · rw [hg, hst (by simpa using hc2)]
      (repeat first | refine uA ?_ | (apply S.exit; exact rfl) | ((with_reducible refine And.intro ?_ ?_); focus first | omega | trivial | exact id | (intros; simp_all <;> omega)) | simp (disch := omega) only [go_sem, Nat.reduceBEq, Nat.reduceAdd, Nat.reduceLeDiff, Int.reduceToNat, Int.reducePow, ww])
      (refine S.done ?_; simp only [retP, loadP, go_sem, Nat.reduceBEq, Nat.reduceAdd, Nat.reduceLeDiff, Int.reduceToNat, Int.reducePow]; (repeat (refine ⟨?_, ?_⟩; focus first | trivial | omega | simp)); exact RetOK.ownW (Imp.refl rfl) (by (repeat first | refine uA ?_ | (refine ⟨?_, ?_⟩; focus first | rfl | trivial | (simp [slot]; done)) | rfl | trivial | simp)) (Nat.le_trans hν0 (by simp)))
    · have hc3 : e = 0 := by simpa using hc2
      (repeat first | refine uA ?_ | (apply S.exit; exact rfl) | ((with_reducible refine And.intro ?_ ?_); focus first | omega | trivial | exact id | (intros; simp_all <;> omega)) | simp (disch := omega) only [go_sem, Nat.reduceBEq, Nat.reduceAdd, Nat.reduceLeDiff, Int.reduceToNat, Int.reducePow, ww])
      refine S.next (x := (i, m)) (i + 1, m') ⟨by simp only; omega, by simp only; rw [hg, hnx hc3]⟩ (by simp only; omega) (by (repeat first | refine uA ?_ | (refine ⟨?_, ?_⟩; focus first | rfl | trivial | (simp [slot]; done)) | rfl | trivial | simp | exact Nat.le_trans hν0 (by simp)))
  · rw [hg, eachE_end (by omega)]
    (repeat first | refine uA ?_ | (apply S.exit; exact rfl) | ((with_reducible refine And.intro ?_ ?_); focus first | omega | trivial | exact id | (intros; simp_all <;> omega)) | simp (disch := omega) only [go_sem, Nat.reduceBEq, Nat.reduceAdd, Nat.reduceLeDiff, Int.reduceToNat, Int.reducePow, ww])
    (refine S.done ?_; simp only [retP, loadP, go_sem, Nat.reduceBEq, Nat.reduceAdd, Nat.reduceLeDiff, Int.reduceToNat, Int.reducePow]; (repeat (refine ⟨?_, ?_⟩; focus first | trivial | omega | simp)); exact RetOK.ownW (Imp.refl rfl) (by (repeat first | refine uA ?_ | (refine ⟨?_, ?_⟩; focus first | rfl | trivial | (simp [slot]; done)) | rfl | trivial | simp)) (Nat.le_trans hν0 (by simp)))
theorem f_worksE (w : Wk) (hb : Wb 1073741824 w) : FZ 11 [w.c] (ints (worksE w)) := by
  refine FSpecW.of fn_works_Check ok_works_Check (by exact Nat.le_of_ble_eq_true rfl) fun w' O hw => ?_
  have ht : Tz ⟨Tryz.prog, eff, ir_works_Check.ntmps, w', fun _ => False, O, [], []⟩ := tz hw
  obtain ⟨⟨n1, b1⟩, ⟨n2, b2⟩, ⟨n3, b3⟩, ⟨n4, b4⟩, ⟨n5, b5⟩, b6⟩ := hb
  have h1 := fun (E : Ctx) (hP : E.P = Tryz.prog) (ht : Tz E) => h_eachArm hP ht w [] w.arms n1 b1
  have h2 := f_eachWall w.walls n2 b2
  unfold worksE worksL
  generalize eachE armS [] w.arms = r1 at *
  obtain ⟨e1, m1⟩ := r1
  have h3 := fun (E : Ctx) (hP : E.P = Tryz.prog) (ht : Tz E) => h_eachPart hP ht m1 w.parts n3 b3
  simp only at h3 ⊢
  generalize eachE partS m1 w.parts = r3 at *
  obtain ⟨e3, m3⟩ := r3
  have h4 := fun (E : Ctx) (hP : E.P = Tryz.prog) (ht : Tz E) => h_eachSlot hP ht m3 w.slots n4 b4
  simp only at h4 ⊢
  generalize eachE slotS m3 w.slots = r4 at *
  obtain ⟨e4, m4⟩ := r4
  have h5 := fun (E : Ctx) (hP : E.P = Tryz.prog) (ht : Tz E) => h_eachGate hP ht m4 w.gates n5 b5
  simp only at h5 ⊢
  generalize eachE gateS m4 w.gates = r5 at *
  obtain ⟨e5, m5⟩ := r5
  generalize firstE shapeE w.walls = e2 at *
  simp only
  have h6 := f_good w.walk (b6.mono (by decide))
  have h7 := f_small w.walk (b6.mono (by decide))
  have h8 := f_rsign w.walk (b6.mono (by decide))
  unfold walkE
  generalize decide w.walk.goodP = q1 at *
  generalize smallB w.walk = q2 at *
  generalize signQ (Nm.fitQ w.walk) = s8 at *
  obtain ⟨arms, walls, parts, slots, gates, walk⟩ := w
  simp only [ir_works_Check, frOf, TT, II, OA, OB, OC, MM, LL, VV, FF, MG, LG, VG, FG] at ht ⊢
  simp only [Wk.c, Wk.enc, rsW, ams, wls, pts, sls, gts, rc, sb, ints] at *
  (repeat first | refine uA ?_ | (apply S.exit; exact rfl) | ((with_reducible refine And.intro ?_ ?_); focus first | omega | trivial | exact id | (intros; simp_all <;> omega)) | simp (disch := omega) only [go_sem, Nat.reduceBEq, Nat.reduceAdd, Nat.reduceLeDiff, Int.reduceToNat, Int.reducePow, ww, List.length_map])
  refine S.cond rfl (fun hc => ?_) (fun hc => ?_)
  · rw [if_pos (by simp only [Bool.or_eq_true, decide_eq_true_eq] at hc; omega)]
    (repeat first | refine uA ?_ | (apply S.exit; exact rfl) | ((with_reducible refine And.intro ?_ ?_); focus first | omega | trivial | exact id | (intros; simp_all <;> omega)) | simp (disch := omega) only [go_sem, Nat.reduceBEq, Nat.reduceAdd, Nat.reduceLeDiff, Int.reduceToNat, Int.reducePow, ww])
    exact S.done (RetOK.out rfl (Imp.refl rfl) rfl)
  rw [if_neg (by simp only [Bool.or_eq_false_iff, decide_eq_false_iff_not] at hc; omega)]
  (repeat first | refine uA ?_ | (apply S.exit; exact rfl) | ((with_reducible refine And.intro ?_ ?_); focus first | omega | trivial | exact id | (intros; simp_all <;> omega)) | simp (disch := omega) only [go_sem, Nat.reduceBEq, Nat.reduceAdd, Nat.reduceLeDiff, Int.reduceToNat, Int.reducePow, ww, List.length_map])
  refine S.cond rfl (fun hc => ?_) (fun hc => ?_)
  · rw [if_pos (by simp only [decide_eq_true_eq] at hc; omega)]
    (repeat first | refine uA ?_ | (apply S.exit; exact rfl) | ((with_reducible refine And.intro ?_ ?_); focus first | omega | trivial | exact id | (intros; simp_all <;> omega)) | simp (disch := omega) only [go_sem, Nat.reduceBEq, Nat.reduceAdd, Nat.reduceLeDiff, Int.reduceToNat, Int.reducePow, ww])
    exact S.done (RetOK.out rfl (Imp.refl rfl) rfl)
  rw [if_neg (by simp only [decide_eq_false_iff_not] at hc; omega)]
  (repeat first | refine uI ?_ | (apply S.exit; exact rfl) | ((with_reducible refine And.intro ?_ ?_); focus first | omega | trivial | exact id | (intros; simp_all <;> omega)) | simp (disch := omega) only [go_sem, Nat.reduceBEq, Nat.reduceAdd, Nat.reduceLeDiff, Int.reduceToNat, Int.reducePow, ww])
  refine S.regd [.box 31 [.sl 12 (arms.map Am.enc), .sl 1 (walls.map fun s => [vts s]), .sl 12 (parts.map Pt.enc), .sl 14 (slots.map Sl.enc), .sl 13 (gates.map Gt.enc), .v (.bool walk.neg), .v (.string (bs walk.num)), .v (.string (bs walk.den))], .gone, .box 117 [.mp 1]] ⟨rfl, rfl, True.intro⟩ ?_
  (repeat first | refine uA ?_ | (apply S.exit; exact rfl) | ((with_reducible refine And.intro ?_ ?_); focus first | omega | trivial | exact id | (intros; simp_all <;> omega)) | simp (disch := omega) only [go_sem, Nat.reduceBEq, Nat.reduceAdd, Nat.reduceLeDiff, Int.reduceToNat, Int.reducePow, ww, List.length_map, subR] | refine CallOK.t (h1 _ rfl ht) ?_ | refine CallOK.t (CallT.lift (k := 1) rfl (h3 _ rfl ht) rfl rfl rfl) ?_ | refine CallOK.t (CallT.lift (k := 1) rfl (h4 _ rfl ht) rfl rfl rfl) ?_ | refine CallOK.t (CallT.lift (k := 1) rfl (h5 _ rfl ht) rfl rfl rfl) ?_ | (refine uD h2 ?_ ?_ ?_; exact tz hw; exact rfl))
  generalize hL : [e1, e2, e3, e4, e5] = L
  have hl5 : L.length = 5 := by rw [← hL]; rfl
  have e63 : [[C.v (Value.int IntKind.i64 e1)], [C.v (Value.int IntKind.i64 e2)], [C.v (Value.int IntKind.i64 e3)], [C.v (Value.int IntKind.i64 e4)], [C.v (Value.int IntKind.i64 e5)]] = L.map fun e => [C.v (Value.int IntKind.i64 e)] := by rw [← hL]; rfl
  simp only [e63]
  refine S.loop (X := Nat) (fun i => ⟨[(1, .bp 0 0), (63, .sl 1 (L.map fun e => [.v (.int .i64 e)])), (64, ints 5), (65, ints i)], [.box 31 [.sl 12 (arms.map Am.enc), .sl 1 (walls.map fun s => [vts s]), .sl 12 (parts.map Pt.enc), .sl 14 (slots.map Sl.enc), .sl 13 (gates.map Gt.enc), .v (.bool walk.neg), .v (.string (bs walk.num)), .v (.string (bs walk.den))]]⟩) (fun i => i ≤ 5 ∧ firstE id L = firstE id (L.drop i)) (fun i => 5 - i) 0 ⟨Nat.zero_le _, rfl⟩ (by (repeat first | refine uA ?_ | (refine ⟨?_, ?_⟩; focus first | rfl | trivial | (simp [slot]; done)) | rfl | trivial | simp)) ?_
  rintro i ⟨hi, hg⟩
  simp only [ints] at hi hg ⊢
  (repeat first | refine uA ?_ | (apply S.exit; exact rfl) | ((with_reducible refine And.intro ?_ ?_); focus first | omega | trivial | exact id | (intros; simp_all <;> omega)) | simp (disch := omega) only [go_sem, Nat.reduceBEq, Nat.reduceAdd, Nat.reduceLeDiff, Int.reduceToNat, Int.reducePow, ww])
  (refine uJ rfl (fun hc => ?_) fun hc => ?_)
  · have hi' : i < L.length := by omega
    have hgi := List.getElem?_eq_getElem hi'
    generalize L[i] = x at hgi
    have hst := firstE_stop (f := id) hgi
    have hnx := firstE_next (f := id) hgi
    simp only [id] at hst hnx
    (repeat first | refine uA ?_ | (apply S.exit; exact rfl) | ((with_reducible refine And.intro ?_ ?_); focus first | omega | trivial | exact id | (intros; simp_all <;> omega)) | simp (disch := omega) only [go_sem, Nat.reduceBEq, Nat.reduceAdd, Nat.reduceLeDiff, Int.reduceToNat, Int.reducePow, ww, hgi, Option.map_some, List.length_map, hl5])
    refine S.cond rfl (fun hc2 => ?_) (fun hc2 => ?_)
    · have h0 : x ≠ 0 := by simpa using hc2
      rw [hg, hst h0, if_pos h0]
      (repeat first | refine uA ?_ | (apply S.exit; exact rfl) | ((with_reducible refine And.intro ?_ ?_); focus first | omega | trivial | exact id | (intros; simp_all <;> omega)) | simp (disch := omega) only [go_sem, Nat.reduceBEq, Nat.reduceAdd, Nat.reduceLeDiff, Int.reduceToNat, Int.reducePow, ww])
      exact S.done (RetOK.out rfl (Imp.refl rfl) rfl)
    · have hc3 : x = 0 := by simpa using hc2
      (repeat first | refine uA ?_ | (apply S.exit; exact rfl) | ((with_reducible refine And.intro ?_ ?_); focus first | omega | trivial | exact id | (intros; simp_all <;> omega)) | simp (disch := omega) only [go_sem, Nat.reduceBEq, Nat.reduceAdd, Nat.reduceLeDiff, Int.reduceToNat, Int.reducePow, ww])
      refine S.next (i + 1) ⟨by omega, by rw [hg]; exact hnx hc3⟩ (by omega) (by (repeat first | refine uA ?_ | (refine ⟨?_, ?_⟩; focus first | rfl | trivial | (simp [slot]; done)) | rfl | trivial | simp))
  · rw [hg, firstE_end (by omega), if_neg (by decide)]
    (repeat first | refine uA ?_ | (apply S.exit; exact rfl) | ((with_reducible refine And.intro ?_ ?_); focus first | omega | trivial | exact id | (intros; simp_all <;> omega)) | simp (disch := omega) only [go_sem, Nat.reduceBEq, Nat.reduceAdd, Nat.reduceLeDiff, Int.reduceToNat, Int.reducePow, ww] | (refine uD h6 ?_ ?_ ?_; exact tz hw; exact rfl) | (refine uD h7 ?_ ?_ ?_; exact tz hw; exact rfl) | (refine uD h8 ?_ ?_ ?_; exact tz hw; exact rfl))
    refine S.cond rfl (fun hc => ?_) (fun hc => ?_)
    · rw [if_neg (by simp only [Bool.or_eq_true, Bool.not_eq_true', decide_eq_true_eq] at hc; simp only [Bool.and_eq_true, decide_eq_true_eq]; rintro ⟨⟨g7, g8⟩, g9⟩; rcases hc with (hc | hc) | hc <;> first | (rw [hc] at g7; cases g7; done) | (rw [hc] at g8; cases g8; done) | omega)]
      (repeat first | refine uA ?_ | (apply S.exit; exact rfl) | ((with_reducible refine And.intro ?_ ?_); focus first | omega | trivial | exact id | (intros; simp_all <;> omega)) | simp (disch := omega) only [go_sem, Nat.reduceBEq, Nat.reduceAdd, Nat.reduceLeDiff, Int.reduceToNat, Int.reducePow, ww])
      exact S.done (RetOK.out rfl (Imp.refl rfl) rfl)
    · rw [if_pos (by simp only [Bool.or_eq_false_iff, Bool.not_eq_false', decide_eq_false_iff_not] at hc; simp only [Bool.and_eq_true, decide_eq_true_eq]; obtain ⟨⟨g7, g8⟩, g9⟩ := hc; exact ⟨⟨g7, g8⟩, by omega⟩)]
      (repeat first | refine uA ?_ | (apply S.exit; exact rfl) | ((with_reducible refine And.intro ?_ ?_); focus first | omega | trivial | exact id | (intros; simp_all <;> omega)) | simp (disch := omega) only [go_sem, Nat.reduceBEq, Nat.reduceAdd, Nat.reduceLeDiff, Int.reduceToNat, Int.reducePow, ww])
      exact S.done (RetOK.out rfl (Imp.refl rfl) rfl)
end Go.Proofs.YtfadociodcmhfaaGreatDoor
namespace Go.Proofs.YtfadociodcmhfaaGreatDoor.Eng
set_option linter.all false
open Go Go.RowKit
mutual
def C.sh (n : Nat) : C → C
  | .rv k => .rv (n + k)
  | .agg cs => .agg (C.shL n cs)
  | .tup cs => .tup (C.shL n cs)
  | c => c
def C.shL (n : Nat) : List C → List C
  | [] => []
  | c :: cs => C.sh n c :: C.shL n cs
end
mutual
def C.okS : C → Bool
  | .rv _ => true
  | .agg cs => C.okSL cs
  | .tup cs => C.okSL cs
  | c => c.cl
def C.okSL : List C → Bool
  | [] => true
  | c :: cs => C.okS c && C.okSL cs
end
section
variable {ν ν' : List Value} {w : World} {O O' : Nat → Prop}
mutual
theorem sh_den (hO : ∀ b, O' b → O b) : ∀ {c : C} {y : Value}, c.okS = true → Den ν' w O c y → Den (ν ++ ν') w O' (C.sh ν.length c) y
  | .rv k, y, _, h => by
    simp only [C.sh, Den] at h ⊢
    exact ⟨by rw [List.getElem?_append_right (by omega), show ν.length + k - ν.length = k by omega]; exact h.1, h.2⟩
  | .agg cs, y, hc, h => by
    simp only [C.sh, Den, C.okS] at h hc ⊢
    obtain ⟨vs, h1, h2⟩ := h
    exact ⟨vs, sh_denL hO hc h1, h2⟩
  | .tup cs, y, hc, h => by
    simp only [C.sh, Den, C.okS] at h hc ⊢
    obtain ⟨vs, h1, h2⟩ := h
    exact ⟨vs, sh_denL hO hc h1, h2⟩
  | .v x, y, hc, h => by simpa only [C.sh, Den] using h
  | .sl sz es, y, hc, h => by simp only [C.sh]; exact (Fz.keep (Keeps.sub hO) (h.fz hc)).den _
  | .nl, y, hc, h => by simpa only [C.sh, Den] using h
  | .ep cs, y, hc, h => by simp only [C.sh]; exact (Fz.keep (Keeps.sub hO) (h.fz hc)).den _
  | .clo f cs, y, hc, h => by simp only [C.sh]; exact (Fz.keep (Keeps.sub hO) (h.fz hc)).den _
  | .bnd f x, y, hc, h => by simp only [C.sh]; exact (Fz.keep (Keeps.sub hO) (h.fz hc)).den _
  | .any S, y, hc, h => by simpa only [C.sh, Den] using h
  | .bp _ _, y, hc, h => by simp only [C.okS, C.cl] at hc; cases hc
  | .rp _ _ _ _, y, hc, h => by simp only [C.okS, C.cl] at hc; cases hc
  | .mp _, y, hc, h => by simp only [C.okS, C.cl] at hc; cases hc
  | .wv _ _ _ _, y, hc, h => by simp only [C.okS, C.cl] at hc; cases hc
  | .g _ _, y, hc, h => by simp only [C.okS, C.cl] at hc; cases hc
  | .junk, y, hc, h => by simp only [C.okS, C.cl] at hc; cases hc
theorem sh_denL (hO : ∀ b, O' b → O b) : ∀ {cs : List C} {vs : List Value}, C.okSL cs = true → DenL ν' w O cs vs → DenL (ν ++ ν') w O' (C.shL ν.length cs) vs
  | [], vs, _, h => by simpa only [C.shL, DenL] using h
  | c :: cs, vs, hc, h => by
    simp only [C.shL, DenL, C.okSL, Bool.and_eq_true] at h hc ⊢
    obtain ⟨y, ys, e, h1, h2⟩ := h
    exact ⟨y, ys, e, sh_den hO hc.1 h1, sh_denL hO hc.2 h2⟩
end
end
def Res.shutG : Res → Bool
  | .gone => true
  | r => r.shut
theorem shutG_ok {ν ν' : List Value} {w : World} {O O' : Nat → Prop} {x : Value} {r : Res} (hs : r.shutG = true) (hO : ∀ b, O' b → O b) (h : ResOK ν w O x r) : ResOK ν' w O' x r := by
  cases r with
  | gone => trivial
  | box t cs => exact shut_ok hs hO h
  | row e sz es => exact shut_ok rfl hO h
  | map s es => exact shut_ok rfl hO h
theorem CallT.pre {E : Ctx} {rs rs' : List Res} {f : Nat} {args : List C} {s : C} (h : CallT E [] f args s rs' []) (hr : rs'.all Res.shutG = true) (hs : s.okS = true) (ha : C.clL args = true) : CallT E rs f args (C.sh rs.length s) (rs ++ rs') [] := by
  intro av ν w vs hR hav hF hD
  rw [List.all_eq_true] at hr
  let av' : Nat → Prop := OO av rs ν
  have hlt : ∀ b, av' b → b < w.heap.size := fun b hb => by
    rcases hb with hb | hb
    · exact hR.av b hb
    · exact (hR.low b hb).1
  have ho0 : ∀ b, ¬ owned [] [] b := fun b ⟨k, r, x, hk, _⟩ => by simp at hk
  have hRG : RG av' E.own0 E.w0.heap.size [] [] w := ⟨rfl, fun k r hk => by simp at hk, fun k l r r' x x' b _ hk => by simp at hk, fun b hb => (ho0 b hb).elim, hlt, hR.n0⟩
  have hOO : ∀ b, OO av' [] [] b → OO av rs ν b := fun b hb => hb.elim id fun h => (ho0 b h).elim
  refine (h av' [] w vs hRG (fun b hb => .inl (hav b hb)) hF ((FzL.keep (Keeps.sub hOO) (hD.fz ha)).den _)).mono ?_
  rintro e w' ⟨y, ν', rfl, h1, h2, h3⟩
  have hlen : (ν ++ ν').length = (rs ++ rs').length := by rw [List.length_append, List.length_append, hR.len, h1.len]
  have htk : (ν ++ ν').take rs.length = ν := by rw [← hR.len]; simp
  have hown := fun b => owned_app hlen b
  rw [htk] at hown
  have hnew : ∀ b, (∃ k r x, rs'[k]? = some r ∧ (ν ++ ν')[rs.length + k]? = some x ∧ fp r x b) → owned rs' ν' b := by
    rintro b ⟨k, r, x, g1, g2, g3⟩
    rw [← hR.len, List.getElem?_append_right (by omega), show ν.length + k - ν.length = k by omega] at g2
    exact ⟨k, r, x, g1, g2, g3⟩
  have hge : ∀ b, owned rs' ν' b → w.heap.size ≤ b := fun b hb => (h2.own b hb).elim (fun h => (ho0 b h).elim) id
  have hnu : NuLe [] ν (ν ++ ν') := fun k x _ hx => by rw [List.getElem?_append_left (List.getElem?_eq_some_iff.1 hx).1]; exact hx
  have hM : Mv rs ν w [] (rs ++ rs') (ν ++ ν') w' := by
    refine ⟨h2.os, h2.tape, h2.output, h2.size, fun b hb _ => h2.block b hb (ho0 b), fun b hb => ?_, hnu⟩
    rcases (hown b).1 hb with hb | hb
    · exact .inl hb
    · exact .inr (hge b (hnew b hb))
  have hOO' : ∀ b, OO av (rs ++ rs') (ν ++ ν') b → OO av' rs' ν' b := fun b hb => by
    rcases hb with hb | hb
    · exact .inl (.inl hb)
    · rcases (hown b).1 hb with hb | hb
      · exact .inl (.inr hb)
      · exact .inr (hnew b hb)
  refine ⟨y, ν ++ ν', rfl, ⟨hlen, fun k r hk => ?_, fun l m q q' z z' b hne g1 g2 g3 g4 g5 => ?_, fun b hb => ?_, fun b hb => Nat.lt_of_lt_of_le (hR.av b hb) h2.size, Nat.le_trans hR.n0 h2.size⟩, hM, by rw [← hR.len]; exact sh_den hOO' hs h3⟩
  · rcases Nat.lt_or_ge k rs.length with hlt' | hge'
    · rw [List.getElem?_append_left hlt'] at hk
      obtain ⟨x, hx, hok⟩ := hR.res k r hk
      have := hok.mv (hM.keeps (av := av)) hM.nu (fun b hf => h2.block b (hR.lt hk hx hf) (ho0 b))
      rw [purge_nil1] at this
      exact ⟨x, hnu k x (fun h => by cases h) hx, this⟩
    · rw [List.getElem?_append_right hge'] at hk
      obtain ⟨x, hx, hok⟩ := h1.res _ r hk
      refine ⟨x, by rw [List.getElem?_append_right (by rw [hR.len]; exact hge'), hR.len]; exact hx, shutG_ok (hr r (List.mem_of_getElem? hk)) hOO' hok⟩
  · have old : ∀ {l q z}, l < rs.length → (rs ++ rs')[l]? = some q → (ν ++ ν')[l]? = some z → rs[l]? = some q ∧ ν[l]? = some z := fun hl a1 a2 => by
      rw [List.getElem?_append_left hl] at a1
      rw [List.getElem?_append_left (by rw [hR.len]; exact hl)] at a2
      exact ⟨a1, a2⟩
    have new : ∀ {l q z}, rs.length ≤ l → (rs ++ rs')[l]? = some q → (ν ++ ν')[l]? = some z → rs'[l - rs.length]? = some q ∧ ν'[l - rs.length]? = some z := fun hl a1 a2 => by
      rw [List.getElem?_append_right hl] at a1
      rw [List.getElem?_append_right (by rw [hR.len]; exact hl), hR.len] at a2
      exact ⟨a1, a2⟩
    rcases Nat.lt_or_ge l rs.length with hl1 | hl1 <;> rcases Nat.lt_or_ge m rs.length with hm1 | hm1
    · obtain ⟨a1, a2⟩ := old hl1 g1 g3
      obtain ⟨a3, a4⟩ := old hm1 g2 g4
      exact hR.dis l m q q' z z' b hne a1 a3 a2 a4 g5
    · obtain ⟨a1, a2⟩ := old hl1 g1 g3
      obtain ⟨a3, a4⟩ := new hm1 g2 g4
      intro hf
      have := hR.lt a1 a2 g5
      have := hge b ⟨_, _, _, a3, a4, hf⟩
      omega
    · obtain ⟨a1, a2⟩ := new hl1 g1 g3
      obtain ⟨a3, a4⟩ := old hm1 g2 g4
      intro hf
      have := hR.lt a3 a4 hf
      have := hge b ⟨_, _, _, a1, a2, g5⟩
      omega
    · obtain ⟨a1, a2⟩ := new hl1 g1 g3
      obtain ⟨a3, a4⟩ := new hm1 g2 g4
      exact h1.dis _ _ q q' z z' b (by omega) a1 a3 a2 a4 g5
  · rcases (hown b).1 hb with hb | hb
    · obtain ⟨a1, a2, a3⟩ := hR.low b hb
      exact ⟨Nat.lt_of_lt_of_le a1 h2.size, a2, a3⟩
    · obtain ⟨a1, a2, a3⟩ := h1.low b (hnew b hb)
      exact ⟨a1, fun ha => a2 (.inl ha), a3⟩
end Go.Proofs.YtfadociodcmhfaaGreatDoor.Eng
namespace Go.Proofs.YtfadociodcmhfaaGreatDoor
set_option linter.all false
open Go Go.RowKit Eng
set_option maxRecDepth 100000
set_option maxHeartbeats 8000000
theorem h_clnVec (es : List (List C)) (hn : es.length ≤ 1073741824) : FNew Tryz.prog 55 [.sl 6 es] 44 6 es := by
  refine FNew.of fn_slices_Clone_api_Vec_api_Vec ok_slices_Clone_api_Vec_api_Vec (by exact Nat.le_of_ble_eq_true rfl) fun w O => ?_
  simp only [ir_slices_Clone_api_Vec_api_Vec, frOf, TT, II, OA, OB, OC, MM, LL, VV, FF, MG, LG, VG, FG]
  (repeat first | refine uA ?_ | (apply S.exit; exact rfl) | ((with_reducible refine And.intro ?_ ?_); focus first | omega | trivial | exact id | (intros; simp_all <;> omega)) | simp (disch := omega) only [go_sem, Nat.reduceBEq, Nat.reduceAdd, Nat.reduceLeDiff, Int.reduceToNat, Int.reducePow, ww])
  refine S.split 4 (Sx := fun y => ∃ b, y = .bool b ∧ (es ≠ [] → b = false)) rfl fun y hy => ?_
  obtain ⟨b, rfl, hb⟩ := hy
  refine S.cond rfl (fun hc => ?_) (fun hc => ?_)
  · have he : es = [] := Classical.byContradiction fun h => by rw [hb h] at hc; cases hc
    subst he
    (repeat first | refine uA ?_ | (apply S.exit; exact rfl) | ((with_reducible refine And.intro ?_ ?_); focus first | omega | trivial | exact id | (intros; simp_all <;> omega)) | simp (disch := omega) only [go_sem, Nat.reduceBEq, Nat.reduceAdd, Nat.reduceLeDiff, Int.reduceToNat, Int.reducePow, ww])
    refine S.weaken (Ent.pack 2 44 6 rfl) ?_
    exact S.done (RetOK.new rfl rfl rfl)
  · (repeat first | refine uA ?_ | (apply S.exit; exact rfl) | ((with_reducible refine And.intro ?_ ?_); focus first | omega | trivial | exact id | (intros; simp_all <;> omega)) | simp (disch := omega) only [go_sem, Nat.reduceBEq, Nat.reduceAdd, Nat.reduceLeDiff, Int.reduceToNat, Int.reducePow, ww])
    exact S.done (RetOK.new rfl rfl rfl)
theorem h_clnBool (es : List (List C)) (hn : es.length ≤ 1073741824) : FNew Tryz.prog 91 [.sl 1 es] 4 1 es := by
  refine FNew.of fn_slices_Clone_bool_bool ok_slices_Clone_bool_bool (by exact Nat.le_of_ble_eq_true rfl) fun w O => ?_
  simp only [ir_slices_Clone_bool_bool, frOf, TT, II, OA, OB, OC, MM, LL, VV, FF, MG, LG, VG, FG]
  (repeat first | refine uA ?_ | (apply S.exit; exact rfl) | ((with_reducible refine And.intro ?_ ?_); focus first | omega | trivial | exact id | (intros; simp_all <;> omega)) | simp (disch := omega) only [go_sem, Nat.reduceBEq, Nat.reduceAdd, Nat.reduceLeDiff, Int.reduceToNat, Int.reducePow, ww])
  refine S.split 4 (Sx := fun y => ∃ b, y = .bool b ∧ (es ≠ [] → b = false)) rfl fun y hy => ?_
  obtain ⟨b, rfl, hb⟩ := hy
  refine S.cond rfl (fun hc => ?_) (fun hc => ?_)
  · have he : es = [] := Classical.byContradiction fun h => by rw [hb h] at hc; cases hc
    subst he
    (repeat first | refine uA ?_ | (apply S.exit; exact rfl) | ((with_reducible refine And.intro ?_ ?_); focus first | omega | trivial | exact id | (intros; simp_all <;> omega)) | simp (disch := omega) only [go_sem, Nat.reduceBEq, Nat.reduceAdd, Nat.reduceLeDiff, Int.reduceToNat, Int.reducePow, ww])
    refine S.weaken (Ent.pack 2 4 1 rfl) ?_
    exact S.done (RetOK.new rfl rfl rfl)
  · (repeat first | refine uA ?_ | (apply S.exit; exact rfl) | ((with_reducible refine And.intro ?_ ?_); focus first | omega | trivial | exact id | (intros; simp_all <;> omega)) | simp (disch := omega) only [go_sem, Nat.reduceBEq, Nat.reduceAdd, Nat.reduceLeDiff, Int.reduceToNat, Int.reducePow, ww])
    exact S.done (RetOK.new rfl rfl rfl)
theorem h_clnRat (es : List (List C)) (hn : es.length ≤ 1073741824) : FNew Tryz.prog 92 [.sl 3 es] 29 3 es := by
  refine FNew.of fn_slices_Clone_api_Rat_api_Rat ok_slices_Clone_api_Rat_api_Rat (by exact Nat.le_of_ble_eq_true rfl) fun w O => ?_
  simp only [ir_slices_Clone_api_Rat_api_Rat, frOf, TT, II, OA, OB, OC, MM, LL, VV, FF, MG, LG, VG, FG]
  (repeat first | refine uA ?_ | (apply S.exit; exact rfl) | ((with_reducible refine And.intro ?_ ?_); focus first | omega | trivial | exact id | (intros; simp_all <;> omega)) | simp (disch := omega) only [go_sem, Nat.reduceBEq, Nat.reduceAdd, Nat.reduceLeDiff, Int.reduceToNat, Int.reducePow, ww])
  refine S.split 4 (Sx := fun y => ∃ b, y = .bool b ∧ (es ≠ [] → b = false)) rfl fun y hy => ?_
  obtain ⟨b, rfl, hb⟩ := hy
  refine S.cond rfl (fun hc => ?_) (fun hc => ?_)
  · have he : es = [] := Classical.byContradiction fun h => by rw [hb h] at hc; cases hc
    subst he
    (repeat first | refine uA ?_ | (apply S.exit; exact rfl) | ((with_reducible refine And.intro ?_ ?_); focus first | omega | trivial | exact id | (intros; simp_all <;> omega)) | simp (disch := omega) only [go_sem, Nat.reduceBEq, Nat.reduceAdd, Nat.reduceLeDiff, Int.reduceToNat, Int.reducePow, ww])
    refine S.weaken (Ent.pack 2 29 3 rfl) ?_
    exact S.done (RetOK.new rfl rfl rfl)
  · (repeat first | refine uA ?_ | (apply S.exit; exact rfl) | ((with_reducible refine And.intro ?_ ?_); focus first | omega | trivial | exact id | (intros; simp_all <;> omega)) | simp (disch := omega) only [go_sem, Nat.reduceBEq, Nat.reduceAdd, Nat.reduceLeDiff, Int.reduceToNat, Int.reducePow, ww])
    exact S.done (RetOK.new rfl rfl rfl)
theorem h_clnFrame (es : List (List C)) (hn : es.length ≤ 1073741824) : FNew Tryz.prog 90 [.sl 10 es] 48 10 es := by
  refine FNew.of fn_slices_Clone_api_Frame_api_Frame ok_slices_Clone_api_Frame_api_Frame (by exact Nat.le_of_ble_eq_true rfl) fun w O => ?_
  simp only [ir_slices_Clone_api_Frame_api_Frame, frOf, TT, II, OA, OB, OC, MM, LL, VV, FF, MG, LG, VG, FG]
  (repeat first | refine uA ?_ | (apply S.exit; exact rfl) | ((with_reducible refine And.intro ?_ ?_); focus first | omega | trivial | exact id | (intros; simp_all <;> omega)) | simp (disch := omega) only [go_sem, Nat.reduceBEq, Nat.reduceAdd, Nat.reduceLeDiff, Int.reduceToNat, Int.reducePow, ww])
  refine S.split 4 (Sx := fun y => ∃ b, y = .bool b ∧ (es ≠ [] → b = false)) rfl fun y hy => ?_
  obtain ⟨b, rfl, hb⟩ := hy
  refine S.cond rfl (fun hc => ?_) (fun hc => ?_)
  · have he : es = [] := Classical.byContradiction fun h => by rw [hb h] at hc; cases hc
    subst he
    (repeat first | refine uA ?_ | (apply S.exit; exact rfl) | ((with_reducible refine And.intro ?_ ?_); focus first | omega | trivial | exact id | (intros; simp_all <;> omega)) | simp (disch := omega) only [go_sem, Nat.reduceBEq, Nat.reduceAdd, Nat.reduceLeDiff, Int.reduceToNat, Int.reducePow, ww])
    refine S.weaken (Ent.pack 2 48 10 rfl) ?_
    exact S.done (RetOK.new rfl rfl rfl)
  · (repeat first | refine uA ?_ | (apply S.exit; exact rfl) | ((with_reducible refine And.intro ?_ ?_); focus first | omega | trivial | exact id | (intros; simp_all <;> omega)) | simp (disch := omega) only [go_sem, Nat.reduceBEq, Nat.reduceAdd, Nat.reduceLeDiff, Int.reduceToNat, Int.reducePow, ww])
    exact S.done (RetOK.new rfl rfl rfl)
end Go.Proofs.YtfadociodcmhfaaGreatDoor
namespace Go.Proofs.YtfadociodcmhfaaGreatDoor
set_option linter.all false
open Go Go.RowKit Eng
set_option maxRecDepth 100000
set_option maxHeartbeats 8000000
theorem ofQ_abs (q : Rat) : Nm.ofQ (absR q) = ⟨false, Nm.enc q.num.natAbs, Nm.enc q.den⟩ := by
  unfold absR
  by_cases h : q.num < 0
  · rw [if_pos h, rq_neg]
    simp [h]
  · rw [if_neg h]
    unfold Nm.ofQ
    rw [decide_eq_false h]
theorem q_abs (a : Nm.Rt) (ha : Rb 17179869184 a) : FZ 89 [rc a] (rq (absR (Nm.fitQ a))) := by
  unfold rq
  rw [ofQ_abs]
  exact f_rabs a ha
theorem rb_abs {k : Nat} {p : Rat} (h : Rb k (Nm.ofQ p)) : Rb k (Nm.ofQ (absR p)) := by rw [ofQ_abs]; exact h
theorem f_wgood1 (a : Nm.Rt) (ha : Rb 68719476736 a) : FZ 159 [rc a] (.v (.bool (!goodB a))) := by
  refine FSpecW.of fn_world_good_1 ok_world_good_1 (by exact Nat.le_of_ble_eq_true rfl) fun w O hw => ?_
  have h := f_good a ha
  unfold goodB
  generalize decide a.goodP = q at *
  simp only [ir_world_good_1, frOf, TT, II, OA, OB, OC, MM, LL, VV, FF, MG, LG, VG, FG]
  simp only [rc, sb] at *
  (repeat first | refine uA ?_ | (apply S.exit; exact rfl) | ((with_reducible refine And.intro ?_ ?_); focus first | omega | trivial | exact id | (intros; simp_all <;> omega)) | simp (disch := omega) only [go_sem, Nat.reduceBEq, Nat.reduceAdd, Nat.reduceLeDiff, Int.reduceToNat, Int.reducePow, ww] | (refine uD h ?_ ?_ ?_; exact tz hw; exact rfl))
  exact S.done (RetOK.out rfl (Imp.refl rfl) rfl)
theorem f_wgood (l : List Nm.Rt) (hl : Rbs 68719476736 l) : FZ 76 [rts l] (.v (.bool (l.all goodB))) := by
  refine FSpecW.of fn_world_good ok_world_good (by exact Nat.le_of_ble_eq_true rfl) fun w O hw => ?_
  have h := f_hasRat 159 (by kernel_rfl) (fun a => !goodB a) l (by have := hl.1; omega) (fun a ha => f_wgood1 a (hl.2 a ha))
  have e : l.all goodB = !l.any fun a => !goodB a := by rw [List.not_any_eq_all_not]; simp
  rw [e]
  generalize (l.any fun a => !goodB a) = q at *
  simp only [ir_world_good, frOf, TT, II, OA, OB, OC, MM, LL, VV, FF, MG, LG, VG, FG]
  simp only [rts] at *
  (repeat first | refine uA ?_ | (apply S.exit; exact rfl) | ((with_reducible refine And.intro ?_ ?_); focus first | omega | trivial | exact id | (intros; simp_all <;> omega)) | simp (disch := omega) only [go_sem, Nat.reduceBEq, Nat.reduceAdd, Nat.reduceLeDiff, Int.reduceToNat, Int.reducePow, ww] | (refine uD h ?_ ?_ ?_; exact tz hw; exact rfl))
  exact S.done (RetOK.out rfl (Imp.refl rfl) rfl)
theorem f_wgoodF (f : Fr) (hf : Fb 17179869184 f) : FZ 73 [f.c] (.v (.bool (goodF f))) := by
  refine FSpecW.of fn_world_goodFrame ok_world_goodFrame (by exact Nat.le_of_ble_eq_true rfl) fun w O hw => ?_
  obtain ⟨x, y, half, t⟩ := f
  obtain ⟨b1, b2, b3⟩ := hf
  simp only at b1 b2 b3
  have h1 := f_wgood _ (Rbs.three (by decide) (b1.mono (m := 68719476736) (by decide)) (b2.mono (m := 68719476736) (by decide)) (b3.mono (m := 68719476736) (by decide)))
  rw [all_three] at h1
  have h4 := f_rsign t b3
  unfold goodF zeroT
  simp only
  generalize (goodB x && goodB y && goodB t) = q1 at *
  generalize signQ (Nm.fitQ t) = n at *
  simp only [ir_world_goodFrame, frOf, TT, II, OA, OB, OC, MM, LL, VV, FF, MG, LG, VG, FG]
  simp only [Fr.c, Fr.enc, rts, rcs, rc, sb, ints, List.map_cons, List.map_nil] at *
  (repeat first | refine uA ?_ | (apply S.exit; exact rfl) | ((with_reducible refine And.intro ?_ ?_); focus first | omega | trivial | exact id | (intros; simp_all <;> omega)) | simp (disch := omega) only [go_sem, Nat.reduceBEq, Nat.reduceAdd, Nat.reduceLeDiff, Int.reduceToNat, Int.reducePow, ww] | (refine uD h4 ?_ ?_ ?_; exact tz hw; exact rfl) | (refine uE h1 ?_ ?_ ?_ ?_; exact tz hw; exact rfl; focus (repeat' first | exact ImpL.nil | exact Imp.refl rfl | exact Imp.frz rfl rfl rfl | (refine Imp.frzw rfl rfl ?_ ?_; (focus ((try simp only [List.length_append]); omega)); (focus first | rfl | assumption)) | refine ImpL.cons ?_ ?_); done))
  have e : (q1 && !(half && !decide (n = 0))) = (q1 && (!half || decide (n = 0))) := by cases q1 <;> cases half <;> simp
  rw [e]
  exact S.done (RetOK.out rfl (Imp.refl (by rfl)) rfl)
theorem f_wchk1 (f : Fr) (hf : Fb 17179869184 f) : FZ 72 [f.c] (.v (.bool (!goodF f))) := by
  refine FSpecW.of fn_world_Check_1 ok_world_Check_1 (by exact Nat.le_of_ble_eq_true rfl) fun w O hw => ?_
  have h := f_wgoodF f hf
  generalize goodF f = q at *
  simp only [ir_world_Check_1, frOf, TT, II, OA, OB, OC, MM, LL, VV, FF, MG, LG, VG, FG]
  simp only [Fr.c, Fr.enc, sb] at *
  (repeat first | refine uA ?_ | (apply S.exit; exact rfl) | ((with_reducible refine And.intro ?_ ?_); focus first | omega | trivial | exact id | (intros; simp_all <;> omega)) | simp (disch := omega) only [go_sem, Nat.reduceBEq, Nat.reduceAdd, Nat.reduceLeDiff, Int.reduceToNat, Int.reducePow, ww] | (refine uD h ?_ ?_ ?_; exact tz hw; exact rfl))
  exact S.done (RetOK.out rfl (Imp.refl rfl) rfl)
theorem f_wchk2 (v : Vt) (hv : Vb 68719476736 v) : FZ 75 [v.c] (.v (.bool (!goodV v))) := by
  refine FSpecW.of fn_world_Check_2 ok_world_Check_2 (by exact Nat.le_of_ble_eq_true rfl) fun w O hw => ?_
  have h := f_wgood _ (Rbs.two (by decide) hv.1 hv.2)
  rw [all_two] at h
  unfold goodV
  generalize (goodB v.x && goodB v.y) = q at *
  simp only [ir_world_Check_2, frOf, TT, II, OA, OB, OC, MM, LL, VV, FF, MG, LG, VG, FG]
  simp only [Vt.c, Vt.enc, rts, rcs, sb, List.map_cons, List.map_nil] at *
  (repeat first | refine uA ?_ | (apply S.exit; exact rfl) | ((with_reducible refine And.intro ?_ ?_); focus first | omega | trivial | exact id | (intros; simp_all <;> omega)) | simp (disch := omega) only [go_sem, Nat.reduceBEq, Nat.reduceAdd, Nat.reduceLeDiff, Int.reduceToNat, Int.reducePow, ww] | (refine uE h ?_ ?_ ?_ ?_; exact tz hw; exact rfl; focus (repeat' first | exact ImpL.nil | exact Imp.refl rfl | exact Imp.frz rfl rfl rfl | (refine Imp.frzw rfl rfl ?_ ?_; (focus ((try simp only [List.length_append]); omega)); (focus first | rfl | assumption)) | refine ImpL.cons ?_ ?_); done))
  exact S.done (RetOK.out rfl (Imp.refl rfl) rfl)
theorem fitsE_len {a : Am} {q : List Nm.Rt} (h : fitsE a q = 0) : q.length = a.links.length := by
  unfold fitsE at h
  split at h
  · rename_i h1; exact absurd h h1
  · split at h
    · cases h
    · rename_i h2; exact Classical.not_not.1 h2
theorem f_one (a : Am) (x : Ast) (parts : Nat) (ha : Ab 1073741824 a) (hx : Asb 1073741824 x) (hp : parts ≤ 1073741824) : FZ 70 [a.c, x.c, .v (.int .i64 (parts : Int))] (ints (oneE a x parts)) := by
  refine FSpecW.of fn_world_one ok_world_one (by exact Nat.le_of_ble_eq_true rfl) fun w O hw => ?_
  have h1 := f_wgood x.q ⟨by have := hx.1.1; omega, fun r hr => (hx.1.2 r hr).mono (by decide)⟩
  have h2 := f_wgood x.v ⟨by have := hx.2.1; omega, fun r hr => (hx.2.2 r hr).mono (by decide)⟩
  have h3 := f_fits a x.q ha hx.1
  have hln := fitsE_len (a := a) (q := x.q)
  unfold oneE
  generalize fitsE a x.q = e at *
  obtain ⟨q, v, power, holds⟩ := x
  simp only at h1 h2 h3 hln ⊢
  generalize q.all goodB = g1 at *
  generalize v.all goodB = g2 at *
  obtain ⟨hvn, hvb⟩ := hx.2
  obtain ⟨name, ⟨bx, by', half, t⟩, links⟩ := a
  obtain ⟨b0, ⟨b1, b2, b3⟩, hn, hb⟩ := ha
  simp only at b0 b1 b2 b3 hn hb hln hvn hvb ⊢
  simp only [ir_world_one, frOf, TT, II, OA, OB, OC, MM, LL, VV, FF, MG, LG, VG, FG]
  simp only [Am.c, Am.enc, Ast.c, Ast.enc, lks, rts, sb, ints] at *
  (repeat first | refine uA ?_ | (apply S.exit; exact rfl) | ((with_reducible refine And.intro ?_ ?_); focus first | omega | trivial | exact id | (intros; simp_all <;> omega)) | simp (disch := omega) only [go_sem, Nat.reduceBEq, Nat.reduceAdd, Nat.reduceLeDiff, Int.reduceToNat, Int.reducePow, ww] | (refine uD h1 ?_ ?_ ?_; exact tz hw; exact rfl) | (refine uD h2 ?_ ?_ ?_; exact tz hw; exact rfl))
  refine S.cond rfl (fun hc => ?_) (fun hc => ?_)
  · rw [if_pos (by cases g1 <;> cases g2 <;> simp_all)]
    (repeat first | refine uA ?_ | (apply S.exit; exact rfl) | ((with_reducible refine And.intro ?_ ?_); focus first | omega | trivial | exact id | (intros; simp_all <;> omega)) | simp (disch := omega) only [go_sem, Nat.reduceBEq, Nat.reduceAdd, Nat.reduceLeDiff, Int.reduceToNat, Int.reducePow, ww])
    exact S.done (RetOK.out rfl (Imp.refl rfl) rfl)
  rw [if_neg (by cases g1 <;> cases g2 <;> simp_all)]
  (repeat first | refine uA ?_ | (apply S.exit; exact rfl) | ((with_reducible refine And.intro ?_ ?_); focus first | omega | trivial | exact id | (intros; simp_all <;> omega)) | simp (disch := omega) only [go_sem, Nat.reduceBEq, Nat.reduceAdd, Nat.reduceLeDiff, Int.reduceToNat, Int.reducePow, ww] | (refine uD h3 ?_ ?_ ?_; exact tz hw; exact rfl))
  refine S.cond rfl (fun hc => ?_) (fun hc => ?_)
  · rw [if_pos (by simpa using hc)]
    (repeat first | refine uA ?_ | (apply S.exit; exact rfl) | ((with_reducible refine And.intro ?_ ?_); focus first | omega | trivial | exact id | (intros; simp_all <;> omega)) | simp (disch := omega) only [go_sem, Nat.reduceBEq, Nat.reduceAdd, Nat.reduceLeDiff, Int.reduceToNat, Int.reducePow, ww])
    exact S.done (RetOK.out rfl (Imp.refl rfl) rfl)
  rw [if_neg (by simpa using hc)]
  have hln := hln (by simpa using hc)
  (repeat first | refine uA ?_ | (apply S.exit; exact rfl) | ((with_reducible refine And.intro ?_ ?_); focus first | omega | trivial | exact id | (intros; simp_all <;> omega)) | simp (disch := omega) only [go_sem, Nat.reduceBEq, Nat.reduceAdd, Nat.reduceLeDiff, Int.reduceToNat, Int.reducePow, ww, List.length_map])
  refine S.cond rfl (fun hc => ?_) (fun hc => ?_)
  · rw [if_pos (by simp only [Bool.or_eq_true, Bool.not_eq_true', decide_eq_true_eq, decide_eq_false_iff_not] at hc; omega)]
    (repeat first | refine uA ?_ | (apply S.exit; exact rfl) | ((with_reducible refine And.intro ?_ ?_); focus first | omega | trivial | exact id | (intros; simp_all <;> omega)) | simp (disch := omega) only [go_sem, Nat.reduceBEq, Nat.reduceAdd, Nat.reduceLeDiff, Int.reduceToNat, Int.reducePow, ww])
    exact S.done (RetOK.out rfl (Imp.refl rfl) rfl)
  rw [if_neg (by simp only [Bool.or_eq_false_iff, Bool.not_eq_false', decide_eq_true_eq, decide_eq_false_iff_not] at hc; omega)]
  have hvl : v.length = links.length := by simp only [Bool.or_eq_false_iff, Bool.not_eq_false', decide_eq_true_eq, decide_eq_false_iff_not] at hc; omega
  (repeat first | refine uA ?_ | (apply S.exit; exact rfl) | ((with_reducible refine And.intro ?_ ?_); focus first | omega | trivial | exact id | (intros; simp_all <;> omega)) | simp (disch := omega) only [go_sem, Nat.reduceBEq, Nat.reduceAdd, Nat.reduceLeDiff, Int.reduceToNat, Int.reducePow, ww, List.length_map])
  refine S.loop (X := Nat) (fun i => ⟨[(4, .bp 1 0), (46, lks links), (47, ints links.length), (48, ints i)], [.gone, .box 85 [rts q, rts v, .v (.bool power), ints holds]]⟩) (fun i => i ≤ links.length ∧ firstE speedE (links.zip v) = firstE speedE ((links.zip v).drop i)) (fun i => links.length - i) 0 ⟨Nat.zero_le _, rfl⟩ (by (repeat first | refine uA ?_ | (refine ⟨?_, ?_⟩; focus first | rfl | trivial | (simp [slot]; done)) | rfl | trivial | simp)) ?_
  rintro i ⟨hi, hg⟩
  simp only [lks, ints, rts]
  (repeat first | refine uA ?_ | (apply S.exit; exact rfl) | ((with_reducible refine And.intro ?_ ?_); focus first | omega | trivial | exact id | (intros; simp_all <;> omega)) | simp (disch := omega) only [go_sem, Nat.reduceBEq, Nat.reduceAdd, Nat.reduceLeDiff, Int.reduceToNat, Int.reducePow, ww])
  (refine uJ rfl (fun hc => ?_) fun hc => ?_)
  · have hi' : i < links.length := by omega
    have hgi := List.getElem?_eq_getElem hi'
    have hgv := List.getElem?_eq_getElem (show i < v.length by omega)
    generalize links[i] = l at hgi
    generalize v[i]'_ = r at hgv
    have hz := zip_get hgi hgv
    have hst := firstE_stop (f := speedE) hz
    have hnx := firstE_next (f := speedE) hz
    have bl := hb l (List.mem_of_getElem? hgi)
    have br := (hvb r (List.mem_of_getElem? hgv)).mono (m := 17179869184) (by decide)
    have o1 := q_abs r br
    have o2 := f_rcmp (Nm.ofQ (absR (Nm.fitQ r))) l.speed (rb_abs (br.fit (by decide))) (bl.2.2.2.1.mono (by decide))
    rw [Nm.fit_of] at o2
    unfold speedE at hst hnx
    simp only at hst hnx
    generalize Nm.cmpQ (absR (Nm.fitQ r)) (Nm.fitQ l.speed) = n1 at *
    unfold rq at o1
    generalize Nm.ofQ (absR (Nm.fitQ r)) = ar at *
    have hvi : (i : Int) < v.length := by omega
    simp only [rc, sb, ints] at o1 o2
    (repeat first | refine uA ?_ | (apply S.exit; exact rfl) | ((with_reducible refine And.intro ?_ ?_); focus first | omega | trivial | exact id | (intros; simp_all <;> omega)) | simp (disch := omega) only [go_sem, Nat.reduceBEq, Nat.reduceAdd, Nat.reduceLeDiff, Int.reduceToNat, Int.reducePow, ww, hgi, hgv, Option.map_some, List.length_map, Lk.enc, rcs, vts, sb, Int.toNat_natCast] | (refine uD o1 ?_ ?_ ?_; exact tz hw; exact rfl) | (refine uD o2 ?_ ?_ ?_; exact tz hw; exact rfl))
    refine S.cond rfl (fun hc2 => ?_) (fun hc2 => ?_)
    · have hp : 0 < n1 := by simpa using hc2
      rw [if_pos hp] at hst
      rw [hg, show speedE = fun x : Lk × Nm.Rt => if 0 < Nm.cmpQ (absR (Nm.fitQ x.2)) (Nm.fitQ x.1.speed) then 1 else 0 from rfl, hst (by decide)]
      (repeat first | refine uA ?_ | (apply S.exit; exact rfl) | ((with_reducible refine And.intro ?_ ?_); focus first | omega | trivial | exact id | (intros; simp_all <;> omega)) | simp (disch := omega) only [go_sem, Nat.reduceBEq, Nat.reduceAdd, Nat.reduceLeDiff, Int.reduceToNat, Int.reducePow, ww])
      exact S.done (RetOK.out rfl (Imp.refl rfl) rfl)
    · have hp : ¬ 0 < n1 := by simpa using hc2
      rw [if_neg hp] at hnx
      (repeat first | refine uA ?_ | (apply S.exit; exact rfl) | ((with_reducible refine And.intro ?_ ?_); focus first | omega | trivial | exact id | (intros; simp_all <;> omega)) | simp (disch := omega) only [go_sem, Nat.reduceBEq, Nat.reduceAdd, Nat.reduceLeDiff, Int.reduceToNat, Int.reducePow, ww])
      refine S.next (i + 1) ⟨by omega, ?_⟩ (by omega) (by (repeat first | refine uA ?_ | (refine ⟨?_, ?_⟩; focus first | rfl | trivial | (simp [slot]; done)) | rfl | trivial | simp))
      rw [hg, show speedE = fun x : Lk × Nm.Rt => if 0 < Nm.cmpQ (absR (Nm.fitQ x.2)) (Nm.fitQ x.1.speed) then 1 else 0 from rfl, hnx rfl]
  · rw [hg, firstE_end (by rw [List.length_zip]; omega)]
    (repeat first | refine uA ?_ | (apply S.exit; exact rfl) | ((with_reducible refine And.intro ?_ ?_); focus first | omega | trivial | exact id | (intros; simp_all <;> omega)) | simp (disch := omega) only [go_sem, Nat.reduceBEq, Nat.reduceAdd, Nat.reduceLeDiff, Int.reduceToNat, Int.reducePow, ww])
    exact S.done (RetOK.out rfl (Imp.refl rfl) rfl)
end Go.Proofs.YtfadociodcmhfaaGreatDoor
namespace Go.Proofs.YtfadociodcmhfaaGreatDoor
set_option linter.all false
open Go Go.RowKit Eng
set_option maxRecDepth 100000
set_option maxHeartbeats 16000000
theorem hd_lk (h : List Int) (n : Int) : (mfind (.int .i64 n) (hdE h)).getD (.bool false) = .bool (h.contains n) := by
  rw [hd_find]; cases h.contains n <;> rfl
theorem all_any {α : Type} (p : α → Bool) (l : List α) : l.all p = !l.any fun x => !p x := by rw [List.not_any_eq_all_not]; simp
theorem f_stateE (w : Wk) (s : Stt) (hb : Wb 1073741824 w) (hs : Stb 1073741824 s) : FZ 12 [w.c, s.c] (ints (stateE w s)) := by
  refine FSpecW.of fn_world_Check ok_world_Check (by exact Nat.le_of_ble_eq_true rfl) fun w' O hw => ?_
  have hwk := f_worksE w hb
  obtain ⟨⟨n1, b1⟩, ⟨n2, b2⟩, ⟨n3, b3⟩, n4⟩ := hs
  have hone := fun (a : Am) (x : Ast) (ha : a ∈ w.arms) (hx : x ∈ s.arms) => f_one a x w.parts.length (hb.arms.2 a ha) (b1 x hx) (by have := hb.parts.1; omega)
  have hfr := f_hasFrame 72 (by kernel_rfl) (fun f => !goodF f) s.parts (by omega) (fun f hf => f_wchk1 f ⟨(b2 f hf).1.mono (by decide), (b2 f hf).2.1.mono (by decide), (b2 f hf).2.2.mono (by decide)⟩)
  have hvc := f_hasVec 75 (by kernel_rfl) (fun v => !goodV v) s.people (by omega) (fun v hv => f_wchk2 v ((b3 v hv).mono (by decide)))
  have m1 := hb.arms.1
  have m2 := hb.parts.1
  have m3 := hb.gates.1
  unfold stateE
  rw [all_any goodF, all_any goodV]
  generalize worksE w = e0 at *
  generalize (s.parts.any fun f => !goodF f) = g1 at *
  generalize (s.people.any fun v => !goodV v) = g2 at *
  obtain ⟨arms, walls, parts, slots, gates, walk⟩ := w
  obtain ⟨tick, sarms, sparts, people, sgates⟩ := s
  simp only at *
  simp only [ir_world_Check, frOf, TT, II, OA, OB, OC, MM, LL, VV, FF, MG, LG, VG, FG]
  simp only [Wk.c, Wk.enc, Stt.c, Stt.enc, ams, wls, pts, sls, gts, asts, frs, vts, bls, sb, ints] at hwk hfr hvc ⊢
  (repeat first | refine uA ?_ | (apply S.exit; exact rfl) | ((with_reducible refine And.intro ?_ ?_); focus first | omega | trivial | exact id | (intros; simp_all <;> omega)) | simp (disch := omega) only [go_sem, Nat.reduceBEq, Nat.reduceAdd, Nat.reduceLeDiff, Int.reduceToNat, Int.reducePow, ww] | (refine uD hwk ?_ ?_ ?_; exact tz hw; exact rfl))
  refine S.cond rfl (fun hc => ?_) (fun hc => ?_)
  · rw [if_pos (by simpa using hc)]
    (repeat first | refine uA ?_ | (apply S.exit; exact rfl) | ((with_reducible refine And.intro ?_ ?_); focus first | omega | trivial | exact id | (intros; simp_all <;> omega)) | simp (disch := omega) only [go_sem, Nat.reduceBEq, Nat.reduceAdd, Nat.reduceLeDiff, Int.reduceToNat, Int.reducePow, ww])
    exact S.done (RetOK.out rfl (Imp.refl rfl) rfl)
  rw [if_neg (by simpa using hc)]
  (repeat first | refine uA ?_ | (apply S.exit; exact rfl) | ((with_reducible refine And.intro ?_ ?_); focus first | omega | trivial | exact id | (intros; simp_all <;> omega)) | simp (disch := omega) only [go_sem, Nat.reduceBEq, Nat.reduceAdd, Nat.reduceLeDiff, Int.reduceToNat, Int.reducePow, ww, List.length_map])
  refine S.cond rfl (fun hc => ?_) (fun hc => ?_)
  · rw [if_pos (by simp only [decide_eq_true_eq] at hc; omega)]
    (repeat first | refine uA ?_ | (apply S.exit; exact rfl) | ((with_reducible refine And.intro ?_ ?_); focus first | omega | trivial | exact id | (intros; simp_all <;> omega)) | simp (disch := omega) only [go_sem, Nat.reduceBEq, Nat.reduceAdd, Nat.reduceLeDiff, Int.reduceToNat, Int.reducePow, ww])
    exact S.done (RetOK.out rfl (Imp.refl rfl) rfl)
  rw [if_neg (by simp only [decide_eq_false_iff_not] at hc; omega)]
  (repeat first | refine uA ?_ | (apply S.exit; exact rfl) | ((with_reducible refine And.intro ?_ ?_); focus first | omega | trivial | exact id | (intros; simp_all <;> omega)) | simp (disch := omega) only [go_sem, Nat.reduceBEq, Nat.reduceAdd, Nat.reduceLeDiff, Int.reduceToNat, Int.reducePow, ww, List.length_map])
  refine S.cond rfl (fun hc => ?_) (fun hc => ?_)
  · rw [if_pos (by simp only [Bool.or_eq_true, Bool.not_eq_true', decide_eq_true_eq, decide_eq_false_iff_not] at hc; omega)]
    (repeat first | refine uA ?_ | (apply S.exit; exact rfl) | ((with_reducible refine And.intro ?_ ?_); focus first | omega | trivial | exact id | (intros; simp_all <;> omega)) | simp (disch := omega) only [go_sem, Nat.reduceBEq, Nat.reduceAdd, Nat.reduceLeDiff, Int.reduceToNat, Int.reducePow, ww])
    exact S.done (RetOK.out rfl (Imp.refl rfl) rfl)
  have hls : sarms.length = arms.length := by simp only [Bool.or_eq_false_iff, Bool.not_eq_false', decide_eq_true_eq, decide_eq_false_iff_not] at hc; omega
  rw [if_neg (by simp only [Bool.or_eq_false_iff, Bool.not_eq_false', decide_eq_true_eq, decide_eq_false_iff_not] at hc; omega)]
  (repeat first | refine uA ?_ | (apply S.exit; exact rfl) | ((with_reducible refine And.intro ?_ ?_); focus first | omega | trivial | exact id | (intros; simp_all <;> omega)) | simp (disch := omega) only [go_sem, Nat.reduceBEq, Nat.reduceAdd, Nat.reduceLeDiff, Int.reduceToNat, Int.reducePow, ww, List.length_map])
  refine S.loop (X := Nat × List Int) (fun x => ⟨[(2, .bp 0 0), (3, .bp 1 0), (6, .mp 2), (56, asts sarms), (57, ints sarms.length), (58, ints x.1)], [.box 31 [ams arms, wls walls, pts parts, sls slots, gts gates, .v (.bool walk.neg), sb walk.num, sb walk.den], .box 37 [ints tick, asts sarms, frs sparts, vts people, bls sgates], .map false (hdE x.2)]⟩)
    (fun x => x.1 ≤ sarms.length ∧ eachE (holdS parts.length) [] (arms.zip sarms) = eachE (holdS parts.length) x.2 ((arms.zip sarms).drop x.1)) (fun x => sarms.length - x.1) (0, []) ⟨Nat.zero_le _, rfl⟩ (by (repeat first | refine uA ?_ | (refine ⟨?_, ?_⟩; focus first | rfl | trivial | (simp [slot]; done)) | rfl | trivial | simp)) ?_
  rintro ⟨i, h⟩ ⟨hi, hg⟩
  simp only [ams, wls, pts, sls, gts, asts, frs, vts, bls, sb, ints] at hi hg ⊢
  (repeat first | refine uA ?_ | (apply S.exit; exact rfl) | ((with_reducible refine And.intro ?_ ?_); focus first | omega | trivial | exact id | (intros; simp_all <;> omega)) | simp (disch := omega) only [go_sem, Nat.reduceBEq, Nat.reduceAdd, Nat.reduceLeDiff, Int.reduceToNat, Int.reducePow, ww])
  (refine uJ rfl (fun hc => ?_) fun hc => ?_)
  · have hgx := List.getElem?_eq_getElem (show i < sarms.length by omega)
    have hga := List.getElem?_eq_getElem (show i < arms.length by omega)
    generalize sarms[i]'_ = x at hgx
    generalize arms[i]'_ = a at hga
    have hz := zip_get hga hgx
    have hst := eachE_stop (f := holdS parts.length) (s := h) hz
    have hnx := eachE_next (f := holdS parts.length) (s := h) hz
    have ho := hone a x (List.mem_of_getElem? hga) (List.mem_of_getElem? hgx)
    have hlk := hd_lk h x.holds
    have hpt := hd_put h x.holds
    have hai : (i : Int) < arms.length := by omega
    have hv : holdS parts.length h (a, x) = if oneE a x parts.length ≠ 0 then (oneE a x parts.length, h) else if (decide (0 ≤ x.holds) && h.contains x.holds) = true then (10, h) else (0, hdPut h x.holds) := rfl
    rw [hv] at hst hnx
    clear hv
    generalize oneE a x parts.length = e1 at *
    generalize h.contains x.holds = c1 at *
    simp only [Am.c, Am.enc, Ast.c, Ast.enc, lks, rts, sb, ints] at ho
    (repeat first | refine uA ?_ | (apply S.exit; exact rfl) | ((with_reducible refine And.intro ?_ ?_); focus first | omega | trivial | exact id | (intros; simp_all <;> omega)) | simp (disch := omega) only [go_sem, Nat.reduceBEq, Nat.reduceAdd, Nat.reduceLeDiff, Int.reduceToNat, Int.reducePow, ww, hga, hgx, Option.map_some, List.length_map, Am.enc, Ast.enc, lks, rts, sb, ints, Int.toNat_natCast] | (refine uD ho ?_ ?_ ?_; exact tz hw; exact rfl))
    refine S.cond rfl (fun hc2 => ?_) (fun hc2 => ?_)
    · have h0 : e1 ≠ 0 := by simpa using hc2
      rw [if_pos h0] at hst
      rw [hg, hst h0, if_pos h0]
      (repeat first | refine uA ?_ | (apply S.exit; exact rfl) | ((with_reducible refine And.intro ?_ ?_); focus first | omega | trivial | exact id | (intros; simp_all <;> omega)) | simp (disch := omega) only [go_sem, Nat.reduceBEq, Nat.reduceAdd, Nat.reduceLeDiff, Int.reduceToNat, Int.reducePow, ww])
      exact S.done (RetOK.out rfl (Imp.refl rfl) rfl)
    have h0 : e1 = 0 := by simpa using hc2
    rw [if_neg (by simp [h0])] at hst hnx
    (repeat first | refine uA ?_ | (apply S.exit; exact rfl) | ((with_reducible refine And.intro ?_ ?_); focus first | omega | trivial | exact id | (intros; simp_all <;> omega)) | simp (disch := omega) only [go_sem, Nat.reduceBEq, Nat.reduceAdd, Nat.reduceLeDiff, Int.reduceToNat, Int.reducePow, ww, hlk])
    refine S.cond rfl (fun hc3 => ?_) (fun hc3 => ?_)
    · rw [if_pos hc3] at hst
      rw [hg, hst (by simp), if_pos (by simp)]
      (repeat first | refine uA ?_ | (apply S.exit; exact rfl) | ((with_reducible refine And.intro ?_ ?_); focus first | omega | trivial | exact id | (intros; simp_all <;> omega)) | simp (disch := omega) only [go_sem, Nat.reduceBEq, Nat.reduceAdd, Nat.reduceLeDiff, Int.reduceToNat, Int.reducePow, ww])
      exact S.done (RetOK.out rfl (Imp.refl rfl) rfl)
    · rw [if_neg (by rw [hc3]; decide)] at hnx
      (repeat first | refine uA ?_ | (apply S.exit; exact rfl) | ((with_reducible refine And.intro ?_ ?_); focus first | omega | trivial | exact id | (intros; simp_all <;> omega)) | simp (disch := omega) only [go_sem, Nat.reduceBEq, Nat.reduceAdd, Nat.reduceLeDiff, Int.reduceToNat, Int.reducePow, ww, hpt])
      refine S.next (x := (i, h)) (i + 1, hdPut h x.holds) ⟨by simp only; omega, by simp only; rw [hg, hnx rfl]⟩ (by simp only; omega) (by (repeat first | refine uA ?_ | (refine ⟨?_, ?_⟩; focus first | rfl | trivial | (simp [slot]; done)) | rfl | trivial | simp))
  · rw [hg, eachE_end (by rw [List.length_zip]; omega), if_neg (by simp)]
    (repeat first | refine uA ?_ | (apply S.exit; exact rfl) | ((with_reducible refine And.intro ?_ ?_); focus first | omega | trivial | exact id | (intros; simp_all <;> omega)) | simp (disch := omega) only [go_sem, Nat.reduceBEq, Nat.reduceAdd, Nat.reduceLeDiff, Int.reduceToNat, Int.reducePow, ww] | (refine uD hfr ?_ ?_ ?_; exact tz hw; exact rfl) | (refine uD hvc ?_ ?_ ?_; exact tz hw; exact rfl))
    refine S.cond rfl (fun hc => ?_) (fun hc => ?_)
    · rw [if_neg (by cases g1 <;> cases g2 <;> simp_all)]
      (repeat first | refine uA ?_ | (apply S.exit; exact rfl) | ((with_reducible refine And.intro ?_ ?_); focus first | omega | trivial | exact id | (intros; simp_all <;> omega)) | simp (disch := omega) only [go_sem, Nat.reduceBEq, Nat.reduceAdd, Nat.reduceLeDiff, Int.reduceToNat, Int.reducePow, ww])
      exact S.done (RetOK.out rfl (Imp.refl rfl) rfl)
    · rw [if_pos (by cases g1 <;> cases g2 <;> simp_all)]
      (repeat first | refine uA ?_ | (apply S.exit; exact rfl) | ((with_reducible refine And.intro ?_ ?_); focus first | omega | trivial | exact id | (intros; simp_all <;> omega)) | simp (disch := omega) only [go_sem, Nat.reduceBEq, Nat.reduceAdd, Nat.reduceLeDiff, Int.reduceToNat, Int.reducePow, ww])
      exact S.done (RetOK.out rfl (Imp.refl rfl) rfl)
end Go.Proofs.YtfadociodcmhfaaGreatDoor
namespace Go.Proofs.YtfadociodcmhfaaGreatDoor
set_option linter.all false
open Go Eng
def effCs : List Nat := [55, 91]
def effC (f : Nat) : Bool := effCs.contains f
def ir_world_Copy_effC : IFun := ⟨41, [.cell 2 true 5], .seq (.reg [OA 1 (.box 37 (TT 0)), OA 2 (.alloc 37 [.int .i64 0, .slice none 0 0, .slice none 0 0, .slice none 0 0, .slice none 0 0])]) (.seq (.regd [.l, .l, .q, .q, .q, .q, .q, .e none false, .l, .l, .e
  none false, .q, .a, .e (some 3) false] [FF 6 0 1, VV 7 6, FF 8 2 1, VV 9 8, OA 10 (.call 90 [TT 9]), FF 11 3 1, VV 12 11, OA 13 (.call 55 [TT 12]), FF 14 4 1, VV 15 14, OA 16 (.call 91 [TT 15]), OA 17 (.build [.int .i64 0,
  .slice none 0 0, .slice none 0 0, .slice none 0 0, .slice none 0 0] [(0, (1, TT 7)), (2, (1, TT 10)), (3, (1, TT 13)), (4, (1, TT 16))]), OA 3 (.alloc 37 [.int .i64 0, .slice none 0 0, .slice none 0 0, .slice none 0 0, .slice
  none 0 0]), OB (.store 5 (TT 3) (TT 17))]) (.seq (.seq (.reg [FF 18 1 1, VV 19 18, OA 20 (.len false (TT 19)), OA 21 (.mv (II 0))]) (.block 0 (.loop (.seq (.reg [OA 22 (.bin .lss (TT 21) (TT 20))]) (.seq (.cond (TT 22) .skip
  (.exit 0)) (.seq (.block 1 (.seq (.reg [OA 23 (.iaddr 4 (TT 19) (TT 21)), LL 24 4 23, OA 5 (.alloc 85 [.slice none 0 0, .slice none 0 0, .bool false, .int .i64 0]), OB (.store 4 (TT 5) (TT 24))]) (.seq (.regd [.q, .q, .q, .q,
  .q, .q, .q, .e none false, .q, .e none false] [FF 25 0 5, VV 26 25, OA 27 (.call 92 [TT 26]), FF 28 1 5, VV 29 28, OA 30 (.call 92 [TT 29]), FF 31 0 5, OB (.store 1 (TT 31) (TT 27)), FF 32 1 5, OB (.store 1 (TT 32) (TT 30))])
  (.reg [FF 33 1 3, VV 34 33, LL 35 4 5, OA 36 (.bsl 85 4 1 [.slice none 0 0, .slice none 0 0, .bool false, .int .i64 0] [(0, TT 35)]), OA 37 (.app 85 4 64 (TT 34) (TT 36)), FF 38 1 3, OB (.store 1 (TT 38) (TT 37))])))) (.reg [OA
  39 (.bin .add (TT 21) (II 1)), MM 21 39]))))))) (.seq (.reg [LL 40 5 3, OB (.store 5 (TT 2) (TT 40))]) .ret)))⟩
theorem ok_world_Copy_effC : compF effC Tryz.prog Tryz.f24 = some ir_world_Copy_effC := by kernel_rfl
theorem fn_world_Copy_effC : Tryz.prog.funcs[24]? = some Tryz.f24 := Tryz.func24
end Go.Proofs.YtfadociodcmhfaaGreatDoor
