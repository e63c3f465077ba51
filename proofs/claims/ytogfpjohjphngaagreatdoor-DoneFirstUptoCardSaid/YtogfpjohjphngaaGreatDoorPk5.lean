/- A part of the proof: lemmas only, with the conditions that each names. -/
import Derived.Test.YtogfpjohjphngaaGreatDoorProg
import Derived.KernelRfl
import Derived.Test.YtogfpjohjphngaaGreatDoorPk4
namespace Go.Proofs.YtogfpjohjphngaaGreatDoor
set_option linter.all false
open Go Eng
def a6m : p9 := ⟨28, [.tmp 2], .seq (.reg [OA 2 (.mv (.const (.bool false)))]) (.seq (.seq (.reg [MM 4 0, OA 5 (.len true (TT 4)), OA 6 (.mv (II 0))]) (.block 0 (.loop (.seq (.reg [OA 7 (.bin .lss (TT 6) (TT 5))]) (.seq (.cond (TT 7) .skip (.exit
 0)) (.seq (.block 1 (.seq (.reg [MM 8 6, MM 3 8]) (.seq (.reg [MM 9 0, MM 10 3, OA 11 (.idxs (TT 9) (TT 10)), OA 12 (.bin .lss (TT 11) (.const (.int .u8 97))), MM 13 12, MG 14 0 13 false, MG 15 3 13 false, OC 16 (.idxs (TT 14)
 (TT 15)) 13 false, OC 17 (.bin .gtr (TT 16) (.const (.int .u8 122))) 13 false, OA 18 (.pick (TT 13) (.const (.bool true)) (TT 17))]) (.cond (TT 18) (.seq (.reg [OA 2 (.mv (.const (.bool false)))]) .ret) .skip)))) (.reg [OA 19
 (.bin .add (TT 6) (II 1)), MM 6 19]))))))) (.seq (.reg [MM 20 0, OA 21 (.len true (TT 20)), OA 22 (.bin .geq (TT 21) (II 1)), MM 23 22, MG 24 0 23 true, OC 25 (.len true (TT 24)) 23 true, OC 26 (.bin .leq (TT 25) (II 12)) 23
 true, OA 27 (.pick (TT 23) (TT 26) (.const (.bool false))), MM 2 27]) .ret))⟩
theorem b2K : l6 eff Tryz.prog Tryz.f19 = some a6m := by kernel_rfl
theorem b2w : Tryz.prog.funcs[19]? = some Tryz.f19 := Tryz.func19
def a5y : p9 := ⟨32, [.tmp 2], .seq (.reg [OA 1 (.box 55 (TT 0)), OA 2 (.mv (.const (.bool false)))]) (.seq (.reg [FF 3 0 1, LL 4 6 3, OA 5 (.bsl 51 6 1 [.bool false, .string ⟨#[]⟩, .string ⟨#[]⟩, .bool false, .string ⟨#[]⟩, .string ⟨#[]⟩] [(0,
 TT 4)]), OA 6 (.call 83 [TT 5]), MM 7 6, FG 8 6 1 7 true, FG 9 1 8 7 true, LG 10 3 9 7 true, OC 11 (.call 62 [TT 10]) 7 true, OA 12 (.pick (TT 7) (TT 11) (.const (.bool false))), MM 13 12, FG 14 6 1 13 true, FG 15 1 14 13 true,
 LG 16 3 15 13 true, OC 17 (.call 84 [TT 16]) 13 true, OA 18 (.pick (TT 13) (TT 17) (.const (.bool false))), MM 19 18, FG 20 6 1 19 true, FG 21 0 20 19 true, VG 22 21 19 true, OC 23 (.un .not (TT 22)) 19 true, MG 24 23 19 true,
 FG 25 6 1 24 false, FG 26 1 25 24 false, LG 27 3 26 24 false, OC 28 (.call 15 [TT 27]) 24 false, OC 29 (.bin .eql (TT 28) (II 0)) 24 false, OC 30 (.pick (TT 24) (.const (.bool true)) (TT 29)) 19 true, OA 31 (.pick (TT 19) (TT
 30) (.const (.bool false))), MM 2 31]) .ret)⟩
theorem b0S : l6 eff Tryz.prog Tryz.f21 = some a5y := by kernel_rfl
theorem b1j : Tryz.prog.funcs[21]? = some Tryz.f21 := Tryz.func21
def a2z : p9 := ⟨89, [.tmp 2], .seq (.reg [OA 1 (.box 31 (TT 0)), OA 2 (.mv (II 0))]) (.seq (.seq (.reg [FF 7 0 1, VV 8 7, OA 9 (.len false (TT 8)), OA 10 (.bin .gtr (TT 9) (II 4)), MM 11 10, FG 12 1 1 11 false, VG 13 12 11 false, OC 14 (.len
 false (TT 13)) 11 false, OC 15 (.bin .gtr (TT 14) (II 10)) 11 false, OA 16 (.pick (TT 11) (.const (.bool true)) (TT 15)), MM 17 16, FG 18 2 1 17 false, VG 19 18 17 false, OC 20 (.len false (TT 19)) 17 false, OC 21 (.bin .gtr (TT
 20) (II 6)) 17 false, OA 22 (.pick (TT 17) (.const (.bool true)) (TT 21)), MM 23 22, FG 24 3 1 23 false, VG 25 24 23 false, OC 26 (.len false (TT 25)) 23 false, OC 27 (.bin .gtr (TT 26) (II 8)) 23 false, OA 28 (.pick (TT 23)
 (.const (.bool true)) (TT 27)), MM 29 28, FG 30 4 1 29 false, VG 31 30 29 false, OC 32 (.len false (TT 31)) 29 false, OC 33 (.bin .gtr (TT 32) (II 4)) 29 false, OA 34 (.pick (TT 29) (.const (.bool true)) (TT 33))]) (.cond (TT
 34) (.seq (.reg [OA 2 (.mv (II 2))]) .ret) .skip)) (.seq (.seq (.reg [FF 35 0 1, VV 36 35, OA 37 (.len false (TT 36)), OA 38 (.bin .eql (TT 37) (II 0))]) (.cond (TT 38) (.seq (.reg [OA 2 (.mv (II 4))]) .ret) .skip)) (.seq (.reg
 [OA 39 (.a1W true), OA 3 (.alloc 140 [.map none]), OB (.store 1 (TT 3) (TT 39))]) (.seq (.reg [OA 40 (.clo 86 [TT 3]), MM 4 40]) (.seq (.seq (.D6 [.q, .q, .q, .e none false, .l, .l, .q, .l, .l, .l, .l, .e none false, .l, .l,
 .l, .l, .e none false, .l, .l, .l, .l, .e none false, .q, .q, .l] [FF 41 0 1, VV 42 41, MM 43 4, OA 44 (.call 89 [TT 42, TT 43]), FF 45 1 1, VV 46 45, OA 47 (.call 90 [TT 46, .func 91]), FF 48 2 1, VV 49 48, VV 50 3, OA 51 (.bnd
 93 (TT 50)), OA 52 (.call 92 [TT 49, TT 51]), FF 53 3 1, VV 54 53, VV 55 3, OA 56 (.bnd 95 (TT 55)), OA 57 (.call 94 [TT 54, TT 56]), FF 58 4 1, VV 59 58, VV 60 3, OA 61 (.bnd 97 (TT 60)), OA 62 (.call 96 [TT 59, TT 61]), OA 63
 (.bsl 40 1 5 [.int .i64 0] [(0, TT 44), (1, TT 47), (2, TT 52), (3, TT 57), (4, TT 62)]), OA 64 (.len false (TT 63)), OA 65 (.mv (II 0))]) (.block 0 (.loop (.seq (.reg [OA 66 (.bin .lss (TT 65) (TT 64))]) (.seq (.cond (TT 66)
 .skip (.exit 0)) (.seq (.block 1 (.seq (.reg [OA 67 (.j5 1 (TT 63) (TT 65)), VV 68 67, MM 6 68]) (.seq (.reg [MM 69 6, OA 70 (.bin .neq (TT 69) (II 0))]) (.cond (TT 70) (.seq (.reg [MM 71 6, MM 2 71]) .ret) .skip)))) (.reg
 [OA 72 (.bin .add (TT 65) (II 1)), MM 65 72]))))))) (.seq (.seq (.reg [FF 73 5 1, LL 74 3 73, OA 75 (.call 62 [TT 74]), OA 76 (.un .not (TT 75)), MM 77 76, FG 78 5 1 77 false, LG 79 3 78 77 false, OC 80 (.call 84 [TT 79]) 77
 false, OC 81 (.un .not (TT 80)) 77 false, OA 82 (.pick (TT 77) (.const (.bool true)) (TT 81)), MM 83 82, FG 84 5 1 83 false, LG 85 3 84 83 false, OC 86 (.call 15 [TT 85]) 83 false, OC 87 (.bin .lss (TT 86) (II 0)) 83 false, OA
 88 (.pick (TT 83) (.const (.bool true)) (TT 87))]) (.cond (TT 88) (.seq (.reg [OA 2 (.mv (II 1))]) .ret) .skip)) (.seq (.reg [OA 2 (.mv (II 0))]) .ret)))))))⟩
theorem b1m : l6 eff Tryz.prog Tryz.f23 = some a2z := by kernel_rfl
theorem b1f : Tryz.prog.funcs[23]? = some Tryz.f23 := Tryz.func23
def a5w : p9 := ⟨6, [.tmp 2], .seq (.reg [OA 2 (.mv (.const (.bool false)))]) (.seq (.reg [MM 3 0, OA 4 (.call 137 [TT 3, .func 197]), OA 5 (.un .not (TT 4)), MM 2 5]) .ret)⟩
theorem b0J : l6 eff Tryz.prog Tryz.f83 = some a5w := by kernel_rfl
theorem b1h : Tryz.prog.funcs[83]? = some Tryz.f83 := Tryz.func83
def a3S : p9 := ⟨14, [.tmp 3], .seq (.reg [OA 2 (.box 76 (TT 0)), OA 3 (.mv (II 0))]) (.seq (.seq (.reg [LL 5 12 2, OA 6 (.call 87 [TT 5]), MM 4 6]) (.seq (.reg [MM 7 4, OA 8 (.bin .neq (TT 7) (II 0))]) (.cond (TT 8) (.seq (.reg [MM 9 4, MM 3 9])
 .ret) .skip))) (.seq (.reg [VV 10 1, FF 11 0 2, VV 12 11, OA 13 (.call 88 [TT 10, TT 12]), MM 3 13]) .ret))⟩
theorem a8I : l6 eff Tryz.prog Tryz.f86 = some a3S := by kernel_rfl
theorem a9o : Tryz.prog.funcs[86]? = some Tryz.f86 := Tryz.func86
def a1H : p9 := ⟨21, [.tmp 4], .seq (.reg [OA 4 (.mv (II 0))]) (.seq (.seq (.reg [MM 8 0, OA 9 (.len false (TT 8)), OA 10 (.mv (II 0))]) (.block 0 (.loop (.seq (.reg [OA 11 (.bin .lss (TT 10) (TT 9))]) (.seq (.cond (TT 11) .skip (.exit 0)) (.seq
 (.block 1 (.seq (.reg [OA 12 (.j5 12 (TT 8) (TT 10)), LL 13 12 12, OA 6 (.alloc 76 [.string ⟨#[]⟩, .bool false, .string ⟨#[]⟩, .string ⟨#[]⟩, .bool false, .string ⟨#[]⟩, .string ⟨#[]⟩, .bool false, .bool false, .string ⟨#[]⟩,
 .string ⟨#[]⟩, .slice none 0 0]), OB (.store 12 (TT 6) (TT 13))]) (.seq (.reg [MM 14 1, LL 15 12 6, OA 16 (.L6 (TT 14) [TT 15]), MM 7 16]) (.seq (.reg [MM 17 7, OA 18 (.bin .neq (TT 17) (II 0))]) (.cond (TT 18) (.seq (.reg
 [MM 19 7, MM 4 19]) .ret) .skip))))) (.reg [OA 20 (.bin .add (TT 10) (II 1)), MM 10 20]))))))) (.seq (.reg [OA 4 (.mv (II 0))]) .ret))⟩
theorem a4Y : l6 eff Tryz.prog Tryz.f89 = some a1H := by kernel_rfl
theorem a5x : Tryz.prog.funcs[89]? = some Tryz.f89 := Tryz.func89
def a1I : p9 := ⟨21, [.tmp 4], .seq (.reg [OA 4 (.mv (II 0))]) (.seq (.seq (.reg [MM 8 0, OA 9 (.len false (TT 8)), OA 10 (.mv (II 0))]) (.block 0 (.loop (.seq (.reg [OA 11 (.bin .lss (TT 10) (TT 9))]) (.seq (.cond (TT 11) .skip (.exit 0)) (.seq
 (.block 1 (.seq (.reg [OA 12 (.j5 1 (TT 8) (TT 10)), VV 13 12, MM 6 13]) (.seq (.reg [MM 14 1, MM 15 6, OA 16 (.L6 (TT 14) [TT 15]), MM 7 16]) (.seq (.reg [MM 17 7, OA 18 (.bin .neq (TT 17) (II 0))]) (.cond (TT 18) (.seq
 (.reg [MM 19 7, MM 4 19]) .ret) .skip))))) (.reg [OA 20 (.bin .add (TT 10) (II 1)), MM 10 20]))))))) (.seq (.reg [OA 4 (.mv (II 0))]) .ret))⟩
theorem a4Z : l6 eff Tryz.prog Tryz.f90 = some a1I := by kernel_rfl
theorem a5l : Tryz.prog.funcs[90]? = some Tryz.f90 := Tryz.func90
def a5m : p9 := ⟨12, [.tmp 2], .seq (.reg [OA 2 (.mv (II 0))]) (.seq (.seq (.reg [MM 4 0, OA 5 (.call 201 [TT 4]), MM 3 5]) (.seq (.reg [MM 6 3, OA 7 (.bin .neq (TT 6) (II 0))]) (.cond (TT 7) (.seq (.reg [MM 8 3, MM 2 8]) .ret) .skip))) (.seq
 (.seq (.reg [MM 9 0, OA 10 (.call 83 [TT 9]), OA 11 (.un .not (TT 10))]) (.cond (TT 11) (.seq (.reg [OA 2 (.mv (II 1))]) .ret) .skip)) (.seq (.reg [OA 2 (.mv (II 0))]) .ret)))⟩
theorem b0O : l6 eff Tryz.prog Tryz.f91 = some a5m := by kernel_rfl
theorem b1l : Tryz.prog.funcs[91]? = some Tryz.f91 := Tryz.func91
def a1r : p9 := ⟨21, [.tmp 4], .seq (.reg [OA 4 (.mv (II 0))]) (.seq (.seq (.reg [MM 8 0, OA 9 (.len false (TT 8)), OA 10 (.mv (II 0))]) (.block 0 (.loop (.seq (.reg [OA 11 (.bin .lss (TT 10) (TT 9))]) (.seq (.cond (TT 11) .skip (.exit 0)) (.seq
 (.block 1 (.seq (.reg [OA 12 (.j5 12 (TT 8) (TT 10)), LL 13 12 12, OA 6 (.alloc 80 [.string ⟨#[]⟩, .slice none 0 0, .bool false, .string ⟨#[]⟩, .string ⟨#[]⟩, .bool false, .string ⟨#[]⟩, .string ⟨#[]⟩, .bool false, .bool
 false, .string ⟨#[]⟩, .string ⟨#[]⟩]), OB (.store 12 (TT 6) (TT 13))]) (.seq (.reg [MM 14 1, LL 15 12 6, OA 16 (.L6 (TT 14) [TT 15]), MM 7 16]) (.seq (.reg [MM 17 7, OA 18 (.bin .neq (TT 17) (II 0))]) (.cond (TT 18) (.seq
 (.reg [MM 19 7, MM 4 19]) .ret) .skip))))) (.reg [OA 20 (.bin .add (TT 10) (II 1)), MM 10 20]))))))) (.seq (.reg [OA 4 (.mv (II 0))]) .ret))⟩
theorem a4F : l6 eff Tryz.prog Tryz.f92 = some a1r := by kernel_rfl
theorem a4O : Tryz.prog.funcs[92]? = some Tryz.f92 := Tryz.func92
def a1g : p9 := ⟨21, [.tmp 4], .seq (.reg [OA 4 (.mv (II 0))]) (.seq (.seq (.reg [MM 8 0, OA 9 (.len false (TT 8)), OA 10 (.mv (II 0))]) (.block 0 (.loop (.seq (.reg [OA 11 (.bin .lss (TT 10) (TT 9))]) (.seq (.cond (TT 11) .skip (.exit 0)) (.seq
 (.block 1 (.seq (.reg [OA 12 (.j5 14 (TT 8) (TT 10)), LL 13 14 12, OA 6 (.alloc 57 [.string ⟨#[]⟩, .bool false, .string ⟨#[]⟩, .string ⟨#[]⟩, .bool false, .string ⟨#[]⟩, .string ⟨#[]⟩, .bool false, .bool false, .string ⟨#[]⟩,
 .string ⟨#[]⟩, .bool false, .string ⟨#[]⟩, .string ⟨#[]⟩]), OB (.store 14 (TT 6) (TT 13))]) (.seq (.reg [MM 14 1, LL 15 14 6, OA 16 (.L6 (TT 14) [TT 15]), MM 7 16]) (.seq (.reg [MM 17 7, OA 18 (.bin .neq (TT 17) (II 0))])
 (.cond (TT 18) (.seq (.reg [MM 19 7, MM 4 19]) .ret) .skip))))) (.reg [OA 20 (.bin .add (TT 10) (II 1)), MM 10 20]))))))) (.seq (.reg [OA 4 (.mv (II 0))]) .ret))⟩
theorem a4M : l6 eff Tryz.prog Tryz.f94 = some a1g := by kernel_rfl
theorem a4W : Tryz.prog.funcs[94]? = some Tryz.f94 := Tryz.func94
def a1i : p9 := ⟨21, [.tmp 4], .seq (.reg [OA 4 (.mv (II 0))]) (.seq (.seq (.reg [MM 8 0, OA 9 (.len false (TT 8)), OA 10 (.mv (II 0))]) (.block 0 (.loop (.seq (.reg [OA 11 (.bin .lss (TT 10) (TT 9))]) (.seq (.cond (TT 11) .skip (.exit 0)) (.seq
 (.block 1 (.seq (.reg [OA 12 (.j5 13 (TT 8) (TT 10)), LL 13 13 12, OA 6 (.alloc 116 [.string ⟨#[]⟩, .bool false, .string ⟨#[]⟩, .string ⟨#[]⟩, .bool false, .string ⟨#[]⟩, .string ⟨#[]⟩, .bool false, .string ⟨#[]⟩, .string
 ⟨#[]⟩, .bool false, .string ⟨#[]⟩, .string ⟨#[]⟩]), OB (.store 13 (TT 6) (TT 13))]) (.seq (.reg [MM 14 1, LL 15 13 6, OA 16 (.L6 (TT 14) [TT 15]), MM 7 16]) (.seq (.reg [MM 17 7, OA 18 (.bin .neq (TT 17) (II 0))]) (.cond (TT
 18) (.seq (.reg [MM 19 7, MM 4 19]) .ret) .skip))))) (.reg [OA 20 (.bin .add (TT 10) (II 1)), MM 10 20]))))))) (.seq (.reg [OA 4 (.mv (II 0))]) .ret))⟩
theorem a4K : l6 eff Tryz.prog Tryz.f96 = some a1i := by kernel_rfl
theorem a4H : Tryz.prog.funcs[96]? = some Tryz.f96 := Tryz.func96
def a3O : p9 := ⟨25, [.tmp 2], .seq (.reg [OA 1 (.box 51 (TT 0)), OA 2 (.mv (.const (.bool false)))]) (.seq (.reg [FF 3 0 1, LL 4 3 3, OA 5 (.call 62 [TT 4]), OA 6 (.un .not (TT 5)), MM 7 6, FG 8 3 1 7 false, LG 9 3 8 7 false, OC 10 (.call 62 [TT
 9]) 7 false, OC 11 (.un .not (TT 10)) 7 false, OA 12 (.pick (TT 7) (.const (.bool true)) (TT 11)), MM 13 12, FG 14 0 1 13 false, LG 15 3 14 13 false, OC 16 (.call 84 [TT 15]) 13 false, OC 17 (.un .not (TT 16)) 13 false, OA 18
 (.pick (TT 13) (.const (.bool true)) (TT 17)), MM 19 18, FG 20 3 1 19 false, LG 21 3 20 19 false, OC 22 (.call 84 [TT 21]) 19 false, OC 23 (.un .not (TT 22)) 19 false, OA 24 (.pick (TT 19) (.const (.bool true)) (TT 23)), MM 2
 24]) .ret)⟩
theorem a8V : l6 eff Tryz.prog Tryz.f197 = some a3O := by kernel_rfl
theorem a8Z : Tryz.prog.funcs[197]? = some Tryz.f197 := Tryz.func197
def a2U : p9 := ⟨13, [.tmp 4], .seq (.reg [OA 4 (.mv (II 0))]) (.seq (.seq (.reg [MM 5 1, OA 6 (.call 19 [TT 5]), OA 7 (.un .not (TT 6))]) (.cond (TT 7) (.seq (.reg [OA 4 (.mv (II 3))]) .ret) .skip)) (.seq (.seq (.reg [MM 8 0, MM 9 1, OA 10 (.lkp
 true (.bool false) false (TT 8) (TT 9))]) (.cond (TT 10) (.seq (.reg [OA 4 (.mv (II 5))]) .ret) .skip)) (.seq (.reg [MM 11 0, MM 12 1, OB (.a4L true (TT 11) (TT 12) (.const (.bool true)))]) (.seq (.reg [OA 4 (.mv (II 0))])
 .ret))))⟩
theorem a6E : l6 eff Tryz.prog Tryz.f88 = some a2U := by kernel_rfl
theorem a7f : Tryz.prog.funcs[88]? = some Tryz.f88 := Tryz.func88
def a2j : p9 := ⟨24, [.tmp 4], .seq (.reg [OA 3 (.box 80 (TT 1)), OA 4 (.mv (II 0))]) (.seq (.seq (.reg [MM 7 0, FF 8 0 3, VV 9 8, OA 10 (.call 88 [TT 7, TT 9]), MM 5 10]) (.seq (.reg [MM 11 5, OA 12 (.bin .neq (TT 11) (II 0))]) (.cond (TT 12)
 (.seq (.reg [MM 13 5, MM 4 13]) .ret) .skip))) (.seq (.seq (.reg [FF 14 1 3, VV 15 14, OA 16 (.call 91 [TT 15]), MM 6 16]) (.seq (.reg [MM 17 6, OA 18 (.bin .neq (TT 17) (II 0))]) (.cond (TT 18) (.seq (.reg [MM 19 6, MM 4 19])
 .ret) .skip))) (.seq (.seq (.reg [FF 20 2 3, LL 21 10 20, OA 22 (.call 21 [TT 21]), OA 23 (.un .not (TT 22))]) (.cond (TT 23) (.seq (.reg [OA 4 (.mv (II 1))]) .ret) .skip)) (.seq (.reg [OA 4 (.mv (II 0))]) .ret))))⟩
theorem a6y : l6 eff Tryz.prog Tryz.f93 = some a2j := by kernel_rfl
theorem a6x : Tryz.prog.funcs[93]? = some Tryz.f93 := Tryz.func93
def a2l : p9 := ⟨35, [.tmp 4], .seq (.reg [OA 3 (.box 57 (TT 1)), OA 4 (.mv (II 0))]) (.seq (.seq (.reg [MM 6 0, FF 7 0 3, VV 8 7, OA 9 (.call 88 [TT 6, TT 8]), MM 5 9]) (.seq (.reg [MM 10 5, OA 11 (.bin .neq (TT 10) (II 0))]) (.cond (TT 11)
 (.seq (.reg [MM 12 5, MM 4 12]) .ret) .skip))) (.seq (.seq (.reg [FF 13 1 3, LL 14 10 13, OA 15 (.call 21 [TT 14]), OA 16 (.un .not (TT 15)), MM 17 16, FG 18 11 3 17 false, LG 19 3 18 17 false, OC 20 (.call 62 [TT 19]) 17 false,
 OC 21 (.un .not (TT 20)) 17 false, OA 22 (.pick (TT 17) (.const (.bool true)) (TT 21)), MM 23 22, FG 24 11 3 23 false, LG 25 3 24 23 false, OC 26 (.call 84 [TT 25]) 23 false, OC 27 (.un .not (TT 26)) 23 false, OA 28 (.pick (TT
 23) (.const (.bool true)) (TT 27)), MM 29 28, FG 30 11 3 29 false, LG 31 3 30 29 false, OC 32 (.call 15 [TT 31]) 29 false, OC 33 (.bin .leq (TT 32) (II 0)) 29 false, OA 34 (.pick (TT 29) (.const (.bool true)) (TT 33))]) (.cond
 (TT 34) (.seq (.reg [OA 4 (.mv (II 1))]) .ret) .skip)) (.seq (.reg [OA 4 (.mv (II 0))]) .ret)))⟩
theorem a6A : l6 eff Tryz.prog Tryz.f95 = some a2l := by kernel_rfl
theorem a6z : Tryz.prog.funcs[95]? = some Tryz.f95 := Tryz.func95
def a2k : p9 := ⟨46, [.tmp 4], .seq (.reg [OA 3 (.box 116 (TT 1)), OA 4 (.mv (II 0))]) (.seq (.seq (.reg [MM 6 0, FF 7 0 3, VV 8 7, OA 9 (.call 88 [TT 6, TT 8]), MM 5 9]) (.seq (.reg [MM 10 5, OA 11 (.bin .neq (TT 10) (II 0))]) (.cond (TT 11)
 (.seq (.reg [MM 12 5, MM 4 12]) .ret) .skip))) (.seq (.seq (.reg [FF 13 1 3, FF 14 0 13, LL 15 6 14, FF 16 1 3, FF 17 6 16, LL 18 6 17, OA 19 (.bsl 51 6 2 [.bool false, .string ⟨#[]⟩, .string ⟨#[]⟩, .bool false, .string ⟨#[]⟩,
 .string ⟨#[]⟩] [(0, TT 15), (1, TT 18)]), OA 20 (.call 83 [TT 19]), OA 21 (.un .not (TT 20)), MM 22 21, FG 23 1 3 22 false, FG 24 0 23 22 false, FG 25 0 24 22 false, LG 26 3 25 22 false, FG 27 1 3 22 false, FG 28 6 27 22 false,
 FG 29 0 28 22 false, LG 30 3 29 22 false, OC 31 (.call 52 [TT 26, TT 30]) 22 false, OC 32 (.bin .gtr (TT 31) (II 0)) 22 false, OA 33 (.pick (TT 22) (.const (.bool true)) (TT 32)), MM 34 33, FG 35 1 3 34 false, FG 36 0 35 34
 false, FG 37 3 36 34 false, LG 38 3 37 34 false, FG 39 1 3 34 false, FG 40 6 39 34 false, FG 41 3 40 34 false, LG 42 3 41 34 false, OC 43 (.call 52 [TT 38, TT 42]) 34 false, OC 44 (.bin .gtr (TT 43) (II 0)) 34 false, OA 45
 (.pick (TT 34) (.const (.bool true)) (TT 44))]) (.cond (TT 45) (.seq (.reg [OA 4 (.mv (II 1))]) .ret) .skip)) (.seq (.reg [OA 4 (.mv (II 0))]) .ret)))⟩
theorem a6w : l6 eff Tryz.prog Tryz.f97 = some a2k := by kernel_rfl
theorem a6v : Tryz.prog.funcs[97]? = some Tryz.f97 := Tryz.func97
def a5A : p9 := ⟨97, [.tmp 4], .seq (.reg [OA 2 (.box 31 (TT 0)), OA 3 (.box 37 (TT 1)), OA 4 (.mv (II 0))]) (.seq (.seq (.reg [LL 10 8 2, OA 11 (.call 23 [TT 10]), MM 5 11]) (.seq (.reg [MM 12 5, OA 13 (.bin .neq (TT 12) (II 0))]) (.cond (TT 13)
 (.seq (.reg [MM 14 5, MM 4 14]) .ret) .skip))) (.seq (.seq (.reg [FF 15 3 3, VV 16 15, OA 17 (.len false (TT 16)), OA 18 (.bin .gtr (TT 17) (II 4))]) (.cond (TT 18) (.seq (.reg [OA 4 (.mv (II 2))]) .ret) .skip)) (.seq (.seq
 (.reg [FF 19 0 3, VV 20 19, OA 21 (.bin .lss (TT 20) (II 0)), MM 22 21, FG 23 0 3 22 false, VG 24 23 22 false, OC 25 (.bin .gtr (TT 24) (II 2000)) 22 false, OA 26 (.pick (TT 22) (.const (.bool true)) (TT 25)), MM 27 26, FG 28 1
 3 27 false, VG 29 28 27 false, OC 30 (.len false (TT 29)) 27 false, FG 31 0 2 27 false, VG 32 31 27 false, OC 33 (.len false (TT 32)) 27 false, OC 34 (.bin .neq (TT 30) (TT 33)) 27 false, OA 35 (.pick (TT 27) (.const (.bool
 true)) (TT 34)), MM 36 35, FG 37 2 3 36 false, VG 38 37 36 false, OC 39 (.len false (TT 38)) 36 false, FG 40 2 2 36 false, VG 41 40 36 false, OC 42 (.len false (TT 41)) 36 false, OC 43 (.bin .neq (TT 39) (TT 42)) 36 false, OA 44
 (.pick (TT 36) (.const (.bool true)) (TT 43)), MM 45 44, FG 46 4 3 45 false, VG 47 46 45 false, OC 48 (.len false (TT 47)) 45 false, FG 49 4 2 45 false, VG 50 49 45 false, OC 51 (.len false (TT 50)) 45 false, OC 52 (.bin .neq
 (TT 48) (TT 51)) 45 false, OA 53 (.pick (TT 45) (.const (.bool true)) (TT 52))]) (.cond (TT 53) (.seq (.reg [OA 4 (.mv (II 1))]) .ret) .skip)) (.seq (.reg [OA 54 (.a1W false), MM 6 54]) (.seq (.seq (.reg [FF 55 1 3, VV 56 55,
 OA 57 (.len false (TT 56)), OA 58 (.mv (II 0))]) (.block 0 (.loop (.seq (.reg [OA 59 (.bin .lss (TT 58) (TT 57))]) (.seq (.cond (TT 59) .skip (.exit 0)) (.seq (.block 1 (.seq (.reg [MM 60 58, OA 61 (.j5 4 (TT 56) (TT 58)), LL
 62 4 61, OA 8 (.alloc 90 [.slice none 0 0, .slice none 0 0, .bool false, .int .i64 0]), MM 7 60, OB (.store 4 (TT 8) (TT 62))]) (.seq (.seq (.D6 [.q, .q, .q, .q, .q, .q, .q, .q, .q, .q, .q] [FF 63 0 2, VV 64 63, MM 65 7, OA 66
 (.j5 12 (TT 64) (TT 65)), LL 67 12 66, LL 68 4 8, FF 69 2 2, VV 70 69, OA 71 (.len false (TT 70)), OA 72 (.call 133 [TT 67, TT 68, TT 71]), MM 9 72]) (.seq (.reg [MM 73 9, OA 74 (.bin .neq (TT 73) (II 0))]) (.cond (TT 74)
 (.seq (.reg [MM 75 9, MM 4 75]) .ret) .skip))) (.seq (.seq (.reg [FF 76 3 8, VV 77 76, OA 78 (.bin .geq (TT 77) (II 0)), MM 79 78, MG 80 6 79 true, FG 81 3 8 79 true, VG 82 81 79 true, OC 83 (.lkp false (.bool false) false (TT
 80) (TT 82)) 79 true, OA 84 (.pick (TT 79) (TT 83) (.const (.bool false)))]) (.cond (TT 84) (.seq (.reg [OA 4 (.mv (II 10))]) .ret) .skip)) (.reg [MM 85 6, FF 86 3 8, VV 87 86, OB (.a4L false (TT 85) (TT 87) (.const (.bool
 true)))]))))) (.reg [OA 88 (.bin .add (TT 58) (II 1)), MM 58 88]))))))) (.seq (.seq (.reg [FF 89 2 3, VV 90 89, OA 91 (.call 134 [TT 90, .func 135]), MM 92 91, FG 93 3 3 92 false, VG 94 93 92 false, OC 95 (.call 137 [TT 94,
 .func 138]) 92 false, OA 96 (.pick (TT 92) (.const (.bool true)) (TT 95))]) (.cond (TT 96) (.seq (.reg [OA 4 (.mv (II 3))]) .ret) .skip)) (.seq (.reg [OA 4 (.mv (II 0))]) .ret)))))))⟩
theorem b1s : l6 eff Tryz.prog Tryz.f38 = some a5A := by kernel_rfl
theorem b0F : Tryz.prog.funcs[38]? = some Tryz.f38 := Tryz.func38
def a5E : p9 := ⟨91, [.cell 2 true 5, .tmp 3], .seq (.reg [OA 1 (.box 31 (TT 0)), OA 2 (.alloc 37 [.int .i64 0, .slice none 0 0, .slice none 0 0, .slice none 0 0, .slice none 0 0]), OA 3 (.mv (II 0))]) (.seq (.seq (.reg [LL 13 8 1, OA 14 (.call
 23 [TT 13]), MM 4 14]) (.seq (.reg [MM 15 4, OA 16 (.bin .neq (TT 15) (II 0))]) (.cond (TT 16) (.seq (.reg [OA 17 (.build [.int .i64 0, .slice none 0 0, .slice none 0 0, .slice none 0 0, .slice none 0 0] []), MM 18 4, OB (.store
 5 (TT 2) (TT 17)), MM 3 18]) .ret) .skip))) (.seq (.reg [OA 5 (.alloc 37 [.int .i64 0, .slice none 0 0, .slice none 0 0, .slice none 0 0, .slice none 0 0])]) (.seq (.seq (.reg [FF 19 0 1, VV 20 19, OA 21 (.len false (TT 20)), OA
 22 (.mv (II 0))]) (.block 0 (.loop (.seq (.reg [OA 23 (.bin .lss (TT 22) (TT 21))]) (.seq (.cond (TT 23) .skip (.exit 0)) (.seq (.block 1 (.seq (.reg [OA 24 (.j5 12 (TT 20) (TT 22)), LL 25 12 24, OA 7 (.alloc 76 [.string
 ⟨#[]⟩, .bool false, .string ⟨#[]⟩, .string ⟨#[]⟩, .bool false, .string ⟨#[]⟩, .string ⟨#[]⟩, .bool false, .bool false, .string ⟨#[]⟩, .string ⟨#[]⟩, .slice none 0 0]), OB (.store 12 (TT 7) (TT 25))]) (.seq (.reg [OA 26 (.build
 [.slice none 0 0, .slice none 0 0, .bool false, .int .i64 0] [(3, (1, II (-1)))]), OA 8 (.alloc 90 [.slice none 0 0, .slice none 0 0, .bool false, .int .i64 0]), OB (.store 4 (TT 8) (TT 26))]) (.seq (.seq (.reg [FF 27 11 7, VV
 28 27, OA 29 (.len false (TT 28)), OA 30 (.mv (II 0))]) (.block 2 (.loop (.seq (.reg [OA 31 (.bin .lss (TT 30) (TT 29))]) (.seq (.cond (TT 31) .skip (.exit 2)) (.seq (.block 3 (.seq (.reg [OA 32 (.j5 16 (TT 28) (TT 30)), LL
 33 16 32, OA 10 (.alloc 158 [.bool false, .string ⟨#[]⟩, .string ⟨#[]⟩, .bool false, .string ⟨#[]⟩, .string ⟨#[]⟩, .bool false, .string ⟨#[]⟩, .string ⟨#[]⟩, .bool false, .string ⟨#[]⟩, .string ⟨#[]⟩, .bool false, .string ⟨#[]⟩,
 .string ⟨#[]⟩, .slice none 0 0]), OB (.store 16 (TT 10) (TT 33))]) (.seq (.D6 [.q, .q, .q, .q, .q, .q, .q, .q, .q, .q, .e none true, .q, .e none false] [FF 34 0 8, VV 35 34, FF 36 3 10, LL 37 3 36, FF 38 6 10, LL 39 3 38, OA
 40 (.call 71 [II 0]), OA 41 (.call 153 [TT 39, TT 40]), OA 42 (.call 74 [TT 37, TT 41]), OA 43 (.bsl 29 3 1 [.bool false, .string ⟨#[]⟩, .string ⟨#[]⟩] [(0, TT 42)]), OA 44 (.app 29 3 40 (TT 35) (TT 43)), FF 45 0 8, OB (.store 1
 (TT 45) (TT 44))]) (.D6 [.q, .q, .q, .q, .e none true, .q, .e none false] [FF 46 1 8, VV 47 46, OA 48 (.call 71 [II 0]), OA 49 (.bsl 29 3 1 [.bool false, .string ⟨#[]⟩, .string ⟨#[]⟩] [(0, TT 48)]), OA 50 (.app 29 3 40 (TT 47)
 (TT 49)), FF 51 1 8, OB (.store 1 (TT 51) (TT 50))])))) (.reg [OA 52 (.bin .add (TT 30) (II 1)), MM 30 52]))))))) (.reg [FF 53 1 5, VV 54 53, LL 55 4 8, OA 56 (.bsl 90 4 1 [.slice none 0 0, .slice none 0 0, .bool false, .int
 .i64 0] [(0, TT 55)]), OA 57 (.app 90 4 64 (TT 54) (TT 56)), FF 58 1 5, OB (.store 1 (TT 58) (TT 57))]))))) (.reg [OA 59 (.bin .add (TT 22) (II 1)), MM 22 59]))))))) (.seq (.seq (.reg [FF 60 2 1, VV 61 60, OA 62 (.len false (TT
 61)), OA 63 (.mv (II 0))]) (.block 4 (.loop (.seq (.reg [OA 64 (.bin .lss (TT 63) (TT 62))]) (.seq (.cond (TT 64) .skip (.exit 4)) (.seq (.block 5 (.seq (.reg [MM 65 63, MM 11 65]) (.seq (.reg [OA 66 (.call 154 []), OA 12
 (.alloc 55 [.bool false, .string ⟨#[]⟩, .string ⟨#[]⟩, .bool false, .string ⟨#[]⟩, .string ⟨#[]⟩, .bool false, .bool false, .string ⟨#[]⟩, .string ⟨#[]⟩]), OB (.store 10 (TT 12) (TT 66))]) (.seq (.seq (.reg [MM 67 11, FF 68 3 1,
 VV 69 68, OA 70 (.len false (TT 69)), OA 71 (.bin .lss (TT 67) (TT 70))]) (.cond (TT 71) (.reg [FF 72 3 1, VV 73 72, MM 74 11, OA 75 (.j5 14 (TT 73) (TT 74)), FF 76 1 75, LL 77 10 76, OB (.store 10 (TT 12) (TT 77))]) .skip))
 (.reg [FF 78 2 5, VV 79 78, LL 80 10 12, OA 81 (.bsl 55 10 1 [.bool false, .string ⟨#[]⟩, .string ⟨#[]⟩, .bool false, .string ⟨#[]⟩, .string ⟨#[]⟩, .bool false, .bool false, .string ⟨#[]⟩, .string ⟨#[]⟩] [(0, TT 80)]), OA 82
 (.app 55 10 128 (TT 79) (TT 81)), FF 83 2 5, OB (.store 1 (TT 83) (TT 82))]))))) (.reg [OA 84 (.bin .add (TT 63) (II 1)), MM 63 84]))))))) (.seq (.reg [FF 85 4 1, VV 86 85, OA 87 (.len false (TT 86)), OA 88 (.Y3 4 1 [.bool
 false] (TT 87) (TT 87)), FF 89 4 5, OB (.store 1 (TT 89) (TT 88))]) (.seq (.reg [LL 90 5 5, OB (.store 5 (TT 2) (TT 90)), OA 3 (.mv (II 0))]) .ret))))))⟩
theorem b0X : l6 eff Tryz.prog Tryz.f46 = some a5E := by kernel_rfl
theorem b0P : Tryz.prog.funcs[46]? = some Tryz.f46 := Tryz.func46
def a7e : p9 := ⟨64, [.tmp 6], .seq (.reg [OA 3 (.box 76 (TT 0)), OA 4 (.box 90 (TT 1)), OA 6 (.mv (II 0))]) (.seq (.seq (.reg [FF 10 0 4, VV 11 10, OA 12 (.call 139 [TT 11]), OA 13 (.un .not (TT 12)), MM 14 13, FG 15 1 4 14 false, VG 16 15 14
 false, OC 17 (.call 139 [TT 16]) 14 false, OC 18 (.un .not (TT 17)) 14 false, OA 19 (.pick (TT 14) (.const (.bool true)) (TT 18))]) (.cond (TT 19) (.seq (.reg [OA 6 (.mv (II 3))]) .ret) .skip)) (.seq (.seq (.reg [LL 20 12 3, FF
 21 0 4, VV 22 21, OA 23 (.call 141 [TT 20, TT 22]), MM 7 23]) (.seq (.reg [MM 24 7, OA 25 (.bin .neq (TT 24) (II 0))]) (.cond (TT 25) (.seq (.reg [MM 26 7, MM 6 26]) .ret) .skip))) (.seq (.seq (.reg [FF 27 1 4, VV 28 27, OA 29
 (.len false (TT 28)), FF 30 11 3, VV 31 30, OA 32 (.len false (TT 31)), OA 33 (.bin .neq (TT 29) (TT 32)), MM 34 33, FG 35 3 4 34 false, VG 36 35 34 false, OC 37 (.bin .lss (TT 36) (II (-1))) 34 false, OA 38 (.pick (TT 34)
 (.const (.bool true)) (TT 37)), MM 39 38, FG 40 3 4 39 false, VG 41 40 39 false, MG 42 2 39 false, OC 43 (.bin .geq (TT 41) (TT 42)) 39 false, OA 44 (.pick (TT 39) (.const (.bool true)) (TT 43))]) (.cond (TT 44) (.seq (.reg [OA
 6 (.mv (II 1))]) .ret) .skip)) (.seq (.seq (.reg [FF 45 11 3, VV 46 45, OA 47 (.len false (TT 46)), OA 48 (.mv (II 0))]) (.block 0 (.loop (.seq (.reg [OA 49 (.bin .lss (TT 48) (TT 47))]) (.seq (.cond (TT 49) .skip (.exit 0))
 (.seq (.block 1 (.seq (.reg [MM 50 48, OA 51 (.j5 16 (TT 46) (TT 48)), LL 52 16 51, OA 9 (.alloc 158 [.bool false, .string ⟨#[]⟩, .string ⟨#[]⟩, .bool false, .string ⟨#[]⟩, .string ⟨#[]⟩, .bool false, .string ⟨#[]⟩, .string
 ⟨#[]⟩, .bool false, .string ⟨#[]⟩, .string ⟨#[]⟩, .bool false, .string ⟨#[]⟩, .string ⟨#[]⟩, .slice none 0 0]), MM 8 50, OB (.store 16 (TT 9) (TT 52))]) (.seq (.D6 [.q, .q, .q, .q, .q, .q, .q, .q, .q, .q] [FF 53 1 4, VV 54 53,
 MM 55 8, OA 56 (.j5 3 (TT 54) (TT 55)), LL 57 3 56, OA 58 (.call 75 [TT 57]), FF 59 9 9, LL 60 3 59, OA 61 (.call 52 [TT 58, TT 60]), OA 62 (.bin .gtr (TT 61) (II 0))]) (.cond (TT 62) (.seq (.reg [OA 6 (.mv (II 1))]) .ret)
 .skip)))) (.reg [OA 63 (.bin .add (TT 48) (II 1)), MM 48 63]))))))) (.seq (.reg [OA 6 (.mv (II 0))]) .ret)))))⟩
theorem b3S : l6 eff Tryz.prog Tryz.f133 = some a7e := by kernel_rfl
theorem b3i : Tryz.prog.funcs[133]? = some Tryz.f133 := Tryz.func133
def a4a : p9 := ⟨6, [.tmp 2], .seq (.reg [OA 1 (.box 55 (TT 0)), OA 2 (.mv (.const (.bool false)))]) (.seq (.reg [LL 3 10 1, OA 4 (.call 136 [TT 3]), OA 5 (.un .not (TT 4)), MM 2 5]) .ret)⟩
theorem a8Y : l6 eff Tryz.prog Tryz.f135 = some a4a := by kernel_rfl
theorem a9h : Tryz.prog.funcs[135]? = some Tryz.f135 := Tryz.func135
def a2W : p9 := ⟨27, [.tmp 2], .seq (.reg [OA 1 (.box 55 (TT 0)), OA 2 (.mv (.const (.bool false)))]) (.seq (.reg [FF 3 0 1, FF 4 0 3, LL 5 3 4, FF 6 0 1, FF 7 3 6, LL 8 3 7, FF 9 6 1, FF 10 1 9, LL 11 3 10, OA 12 (.bsl 29 3 3 [.bool false,
 .string ⟨#[]⟩, .string ⟨#[]⟩] [(0, TT 5), (1, TT 8), (2, TT 11)]), OA 13 (.call 139 [TT 12]), MM 14 13, FG 15 6 1 14 true, FG 16 0 15 14 true, VG 17 16 14 true, OC 18 (.un .not (TT 17)) 14 true, MG 19 18 14 true, FG 20 6 1 19
 false, FG 21 1 20 19 false, LG 22 3 21 19 false, OC 23 (.call 15 [TT 22]) 19 false, OC 24 (.bin .eql (TT 23) (II 0)) 19 false, OC 25 (.pick (TT 19) (.const (.bool true)) (TT 24)) 14 true, OA 26 (.pick (TT 14) (TT 25) (.const
 (.bool false))), MM 2 26]) .ret)⟩
theorem a6X : l6 eff Tryz.prog Tryz.f136 = some a2W := by kernel_rfl
theorem a7w : Tryz.prog.funcs[136]? = some Tryz.f136 := Tryz.func136
def a3z : p9 := ⟨10, [.tmp 2], .seq (.reg [OA 1 (.box 51 (TT 0)), OA 2 (.mv (.const (.bool false)))]) (.seq (.reg [FF 3 0 1, LL 4 3 3, FF 5 3 1, LL 6 3 5, OA 7 (.bsl 29 3 2 [.bool false, .string ⟨#[]⟩, .string ⟨#[]⟩] [(0, TT 4), (1, TT 6)]), OA 8
 (.call 139 [TT 7]), OA 9 (.un .not (TT 8)), MM 2 9]) .ret)⟩
theorem a8K : l6 eff Tryz.prog Tryz.f138 = some a3z := by kernel_rfl
theorem a8G : Tryz.prog.funcs[138]? = some Tryz.f138 := Tryz.func138
def a6q : p9 := ⟨6, [.tmp 2], .seq (.reg [OA 2 (.mv (.const (.bool false)))]) (.seq (.reg [MM 3 0, OA 4 (.call 44 [TT 3, .func 211]), OA 5 (.un .not (TT 4)), MM 2 5]) .ret)⟩
theorem b2s : l6 eff Tryz.prog Tryz.f139 = some a6q := by kernel_rfl
theorem b2C : Tryz.prog.funcs[139]? = some Tryz.f139 := Tryz.func139
def a4j : p9 := ⟨6, [.tmp 2], .seq (.reg [OA 1 (.box 29 (TT 0)), OA 2 (.mv (.const (.bool false)))]) (.seq (.reg [LL 3 3 1, OA 4 (.call 62 [TT 3]), OA 5 (.un .not (TT 4)), MM 2 5]) .ret)⟩
theorem b0w : l6 eff Tryz.prog Tryz.f211 = some a4j := by kernel_rfl
theorem a9y : Tryz.prog.funcs[211]? = some Tryz.f211 := Tryz.func211
def a3g : p9 := ⟨14, [.tmp 4], .seq (.reg [OA 4 (.mv (II 0))]) (.seq (.reg [MM 5 0, MM 6 1, OA 7 (.bin .rem (TT 5) (TT 6)), MM 0 7]) (.seq (.seq (.reg [MM 8 0, OA 9 (.bin .lss (TT 8) (II 0))]) (.cond (TT 9) (.reg [MM 10 0, MM 11 1, OA 12 (.bin
 .add (TT 10) (TT 11)), MM 0 12]) .skip)) (.seq (.reg [MM 13 0, MM 4 13]) .ret)))⟩
theorem a8a : l6 eff Tryz.prog Tryz.f12 = some a3g := by kernel_rfl
theorem a8d : Tryz.prog.funcs[12]? = some Tryz.f12 := Tryz.func12
def a5h : p9 := ⟨34, [.cell 4 true 3], .seq (.reg [OA 4 (.alloc 29 [.bool false, .string ⟨#[]⟩, .string ⟨#[]⟩])]) (.seq (.reg [MM 7 0, MM 8 0, OA 9 (.un .neg (TT 8)), OA 10 (.max (TT 7) (TT 9)), MM 11 1, MM 5 10, MM 6 11]) (.seq (.block 0 (.loop
 (.seq (.seq (.reg [MM 12 6, OA 13 (.bin .gtr (TT 12) (II 0))]) (.cond (TT 13) .skip (.exit 0))) (.block 1 (.D6 [.q, .q, .q, .q, .q, .q] [MM 14 6, MM 15 5, MM 16 6, OA 17 (.bin .rem (TT 15) (TT 16)), MM 5 14, MM 6 17])))))
 (.seq (.D6 [.q, .q, .q, .q, .q, .q, .q, .q] [MM 18 0, MM 19 5, OA 20 (.bin .quo (TT 18) (TT 19)), MM 21 1, MM 22 5, OA 23 (.bin .quo (TT 21) (TT 22)), MM 0 20, MM 1 23]) (.seq (.reg [MM 24 0, OA 25 (.bin .lss (TT 24) (II 0)),
 MM 26 0, MM 27 0, OA 28 (.un .neg (TT 27)), OA 29 (.max (TT 26) (TT 28)), OA 30 (.call 80 [TT 29]), MM 31 1, OA 32 (.call 80 [TT 31]), OA 33 (.build [.bool false, .string ⟨#[]⟩, .string ⟨#[]⟩] [(0, (1, TT 25)), (1, (1, TT 30)),
 (2, (1, TT 32))]), OB (.store 3 (TT 4) (TT 33))]) .ret))))⟩
theorem b0Z : l6 eff Tryz.prog Tryz.f17 = some a5h := by kernel_rfl
theorem b1r : Tryz.prog.funcs[17]? = some Tryz.f17 := Tryz.func17
def a3h : p9 := ⟨159, [.cell 2 true 8], .seq (.reg [OA 2 (.alloc 31 [.slice none 0 0, .slice none 0 0, .slice none 0 0, .slice none 0 0, .slice none 0 0, .bool false, .string ⟨#[]⟩, .string ⟨#[]⟩])]) (.seq (.reg [MM 12 0, OA 13 (.build [.slice
 none 0 0] [(0, (1, TT 12))]), OA 14 (.box 225 (TT 13)), MM 3 14]) (.seq (.reg [OA 4 (.alloc 31 [.slice none 0 0, .slice none 0 0, .slice none 0 0, .slice none 0 0, .slice none 0 0, .bool false, .string ⟨#[]⟩, .string ⟨#[]⟩])])
 (.seq (.seq (.reg [MM 15 3, OA 16 (.call 173 [TT 15, II 2]), OA 17 (.bin .add (II 1) (TT 16)), OA 18 (.mv (II 0))]) (.block 0 (.loop (.seq (.reg [OA 19 (.bin .lss (TT 18) (TT 17))]) (.seq (.cond (TT 19) .skip (.exit 0)) (.seq
 (.block 1 (.seq (.reg [MM 20 18, MM 5 20]) (.D6 [.l, .l, .q, .q, .e none false, .q, .e none true, .q, .e none false] [FF 21 0 4, VV 22 21, MM 23 3, MM 24 5, OA 25 (.call 174 [TT 23, TT 24]), OA 26 (.bsl 76 12 1 [.string ⟨#[]⟩,
 .bool false, .string ⟨#[]⟩, .string ⟨#[]⟩, .bool false, .string ⟨#[]⟩, .string ⟨#[]⟩, .bool false, .bool false, .string ⟨#[]⟩, .string ⟨#[]⟩, .slice none 0 0] [(0, TT 25)]), OA 27 (.app 76 12 168 (TT 22) (TT 26)), FF 28 0 4, OB
 (.store 1 (TT 28) (TT 27))]))) (.reg [OA 29 (.bin .add (TT 18) (II 1)), MM 18 29]))))))) (.seq (.seq (.reg [MM 30 3, OA 31 (.call 173 [TT 30, II 3]), OA 32 (.mv (II 0))]) (.block 2 (.loop (.seq (.reg [OA 33 (.bin .lss (TT 32)
 (TT 31))]) (.seq (.cond (TT 33) .skip (.exit 2)) (.seq (.block 3 (.seq (.reg [MM 34 3, OA 35 (.call 173 [TT 34, II 80]), OA 36 (.bin .sub (TT 35) (II 30)), MM 37 3, OA 38 (.call 173 [TT 37, II 30]), OA 39 (.bin .add (II 12) (TT
 38)), MM 6 36, MM 7 39]) (.seq (.seq (.reg [MM 40 3, OA 41 (.call 173 [TT 40, II 2]), OA 42 (.bin .eql (TT 41) (II 1))]) (.cond (TT 42) (.reg [MM 43 7, OA 44 (.un .neg (TT 43)), OA 45 (.bin .sub (TT 44) (II 6)), MM 7 45])
 .skip)) (.D6 [.l, .l, .l, .l, .l, .l, .q, .e none false, .l, .l, .l, .l, .e none false, .q, .q, .q, .e none true, .q, .e none false] [FF 46 1 4, VV 47 46, MM 48 6, MM 49 7, MM 50 6, OA 51 (.bin .add (TT 50) (II 1)), MM 52 3,
 OA 53 (.call 173 [TT 52, II 20]), OA 54 (.bin .add (TT 51) (TT 53)), MM 55 7, OA 56 (.bin .add (TT 55) (II 1)), MM 57 3, OA 58 (.call 173 [TT 57, II 5]), OA 59 (.bin .add (TT 56) (TT 58)), OA 60 (.call 175 [TT 48, TT 49, TT 54,
 TT 59]), OA 61 (.bsl 34 1 1 [.slice none 0 0] [(0, TT 60)]), OA 62 (.app 34 1 24 (TT 47) (TT 61)), FF 63 1 4, OB (.store 1 (TT 63) (TT 62))])))) (.reg [OA 64 (.bin .add (TT 32) (II 1)), MM 32 64]))))))) (.seq (.seq (.reg [MM 65
 3, OA 66 (.call 173 [TT 65, II 3]), OA 67 (.mv (II 0))]) (.block 4 (.loop (.seq (.reg [OA 68 (.bin .lss (TT 67) (TT 66))]) (.seq (.cond (TT 68) .skip (.exit 4)) (.seq (.block 5 (.seq (.reg [MM 69 67, MM 8 69]) (.D6 [.l, .l,
 .l, .l, .l, .l, .q, .e none false, .q, .q, .q, .q, .q, .q, .e none true, .q, .e none false] [FF 70 2 4, VV 71 70, OA 72 (.bsl 9 1 2 [.string ⟨#[]⟩] [(0, .const (.string ⟨#[98, 111, 108, 116]⟩)), (1, .const (.string ⟨#[110, 117,
 116]⟩))]), MM 73 8, OA 74 (.j5 1 (TT 72) (TT 73)), VV 75 74, MM 76 3, OA 77 (.call 176 [TT 76]), OA 78 (.call 177 [II 0, II 0]), OA 79 (.call 17 [II 0, II 1]), OA 80 (.build [.bool false, .bool false, .string ⟨#[]⟩, .string
 ⟨#[]⟩] [(1, (3, TT 79))]), OA 81 (.build [.bool false, .string ⟨#[]⟩, .string ⟨#[]⟩, .bool false, .string ⟨#[]⟩, .string ⟨#[]⟩, .bool false, .bool false, .string ⟨#[]⟩, .string ⟨#[]⟩] [(0, (6, TT 78)), (6, (4, TT 80))]), OA 82
 (.build [.string ⟨#[]⟩, .slice none 0 0, .bool false, .string ⟨#[]⟩, .string ⟨#[]⟩, .bool false, .string ⟨#[]⟩, .string ⟨#[]⟩, .bool false, .bool false, .string ⟨#[]⟩, .string ⟨#[]⟩] [(0, (1, TT 75)), (1, (1, TT 77)), (2, (10,
 TT 81))]), OA 83 (.bsl 80 12 1 [.string ⟨#[]⟩, .slice none 0 0, .bool false, .string ⟨#[]⟩, .string ⟨#[]⟩, .bool false, .string ⟨#[]⟩, .string ⟨#[]⟩, .bool false, .bool false, .string ⟨#[]⟩, .string ⟨#[]⟩] [(0, TT 82)]), OA 84
 (.app 80 12 168 (TT 71) (TT 83)), FF 85 2 4, OB (.store 1 (TT 85) (TT 84))]))) (.reg [OA 86 (.bin .add (TT 67) (II 1)), MM 67 86]))))))) (.seq (.seq (.D6 [.l, .l, .l, .q, .e none false, .q, .l] [FF 87 2 4, VV 88 87, OA 89
 (.len false (TT 88)), MM 90 3, OA 91 (.call 173 [TT 90, II 2]), OA 92 (.bin .add (TT 89) (TT 91)), OA 93 (.mv (II 0))]) (.block 6 (.loop (.seq (.reg [OA 94 (.bin .lss (TT 93) (TT 92))]) (.seq (.cond (TT 94) .skip (.exit 6))
 (.seq (.block 7 (.seq (.reg [MM 95 93, MM 9 95]) (.D6 [.l, .l, .l, .l, .l, .l, .q, .e none false, .l, .l, .e none false, .q, .q, .l, .e none false, .q, .q, .l, .l, .l, .e none false, .q, .q, .q, .q, .e none true, .q, .e none
 false] [FF 96 3 4, VV 97 96, OA 98 (.bsl 9 1 3 [.string ⟨#[]⟩] [(0, .const (.string ⟨#[104, 101, 114, 101]⟩)), (1, .const (.string ⟨#[116, 104, 101, 114, 101]⟩)), (2, .const (.string ⟨#[98, 101, 121, 111, 110, 100]⟩))]), MM 99
 9, OA 100 (.j5 1 (TT 98) (TT 99)), VV 101 100, MM 102 3, OA 103 (.call 173 [TT 102, II 40]), OA 104 (.bin .sub (TT 103) (II 20)), MM 105 3, OA 106 (.call 173 [TT 105, II 24]), OA 107 (.bin .sub (TT 106) (II 12)), OA 108
 (.call 177 [TT 104, TT 107]), MM 109 3, OA 110 (.call 173 [TT 109, II 5]), OA 111 (.bin .sub (TT 110) (II 2)), OA 112 (.call 17 [TT 111, II 2]), OA 113 (.build [.bool false, .bool false, .string ⟨#[]⟩, .string ⟨#[]⟩] [(1, (3, TT
 112))]), OA 114 (.build [.bool false, .string ⟨#[]⟩, .string ⟨#[]⟩, .bool false, .string ⟨#[]⟩, .string ⟨#[]⟩, .bool false, .bool false, .string ⟨#[]⟩, .string ⟨#[]⟩] [(0, (6, TT 108)), (6, (4, TT 113))]), MM 115 3, OA 116
 (.call 173 [TT 115, II 20]), OA 117 (.bin .add (II 8) (TT 116)), OA 118 (.call 17 [II 1, TT 117]), OA 119 (.build [.string ⟨#[]⟩, .bool false, .string ⟨#[]⟩, .string ⟨#[]⟩, .bool false, .string ⟨#[]⟩, .string ⟨#[]⟩, .bool false,
 .bool false, .string ⟨#[]⟩, .string ⟨#[]⟩, .bool false, .string ⟨#[]⟩, .string ⟨#[]⟩] [(0, (1, TT 101)), (1, (10, TT 114)), (11, (3, TT 118))]), OA 120 (.bsl 57 14 1 [.string ⟨#[]⟩, .bool false, .string ⟨#[]⟩, .string ⟨#[]⟩,
 .bool false, .string ⟨#[]⟩, .string ⟨#[]⟩, .bool false, .bool false, .string ⟨#[]⟩, .string ⟨#[]⟩, .bool false, .string ⟨#[]⟩, .string ⟨#[]⟩] [(0, TT 119)]), OA 121 (.app 57 14 184 (TT 97) (TT 120)), FF 122 3 4, OB (.store 1 (TT
 122) (TT 121))]))) (.reg [OA 123 (.bin .add (TT 93) (II 1)), MM 93 123]))))))) (.seq (.seq (.reg [MM 124 3, OA 125 (.call 173 [TT 124, II 2]), OA 126 (.mv (II 0))]) (.block 8 (.loop (.seq (.reg [OA 127 (.bin .lss (TT 126) (TT
 125))]) (.seq (.cond (TT 127) .skip (.exit 8)) (.seq (.block 9 (.seq (.reg [MM 128 3, OA 129 (.call 173 [TT 128, II 60]), OA 130 (.bin .sub (TT 129) (II 30)), MM 131 3, OA 132 (.call 173 [TT 131, II 60]), OA 133 (.bin .sub (TT
 132) (II 30)), MM 10 130, MM 11 133]) (.D6 [.l, .l, .q, .q, .q, .l, .q, .e none false, .l, .l, .l, .e none false, .q, .q, .q, .q, .q, .e none true, .q, .e none false] [FF 134 4 4, VV 135 134, MM 136 10, MM 137 11, OA 138
 (.call 177 [TT 136, TT 137]), MM 139 10, MM 140 3, OA 141 (.call 173 [TT 140, II 12]), OA 142 (.bin .add (TT 139) (TT 141)), MM 143 11, MM 144 3, OA 145 (.call 173 [TT 144, II 12]), OA 146 (.bin .add (TT 143) (TT 145)), OA 147
 (.call 177 [TT 142, TT 146]), OA 148 (.build [.bool false, .string ⟨#[]⟩, .string ⟨#[]⟩, .bool false, .string ⟨#[]⟩, .string ⟨#[]⟩, .bool false, .string ⟨#[]⟩, .string ⟨#[]⟩, .bool false, .string ⟨#[]⟩, .string ⟨#[]⟩] [(0, (6,
 TT 138)), (6, (6, TT 147))]), OA 149 (.build [.string ⟨#[]⟩, .bool false, .string ⟨#[]⟩, .string ⟨#[]⟩, .bool false, .string ⟨#[]⟩, .string ⟨#[]⟩, .bool false, .string ⟨#[]⟩, .string ⟨#[]⟩, .bool false, .string ⟨#[]⟩, .string
 ⟨#[]⟩] [(0, (1, .const (.string ⟨#[100, 111, 111, 114]⟩))), (1, (12, TT 148))]), OA 150 (.bsl 116 13 1 [.string ⟨#[]⟩, .bool false, .string ⟨#[]⟩, .string ⟨#[]⟩, .bool false, .string ⟨#[]⟩, .string ⟨#[]⟩, .bool false, .string
 ⟨#[]⟩, .string ⟨#[]⟩, .bool false, .string ⟨#[]⟩, .string ⟨#[]⟩] [(0, TT 149)]), OA 151 (.app 116 13 176 (TT 135) (TT 150)), FF 152 4 4, OB (.store 1 (TT 152) (TT 151))]))) (.reg [OA 153 (.bin .add (TT 126) (II 1)), MM 126
 153]))))))) (.seq (.reg [MM 154 3, OA 155 (.call 173 [TT 154, II 4]), OA 156 (.call 17 [TT 155, II 8]), FF 157 5 4, OB (.store 3 (TT 157) (TT 156))]) (.seq (.reg [LL 158 8 4, OB (.store 8 (TT 2) (TT 158))]) .ret)))))))))⟩
theorem a7Z : l6 eff Tryz.prog Tryz.f69 = some a3h := by kernel_rfl
theorem a8b : Tryz.prog.funcs[69]? = some Tryz.f69 := Tryz.func69
def a2X : p9 := ⟨18, [.tmp 2], .seq (.reg [OA 2 (.mv (.const (.string ⟨#[]⟩)))]) (.seq (.reg [OA 3 (.mv (.const (.slice none 0 0)))]) (.seq (.block 0 (.loop (.seq (.seq (.reg [MM 4 0, OA 5 (.bin .gtr (TT 4) (II 0))]) (.cond (TT 5) .skip (.exit
 0))) (.seq (.block 1 (.reg [MM 8 3, MM 9 0, OA 10 (.bin .rem (TT 9) (II 256)), OA 11 (.conv .u8 (TT 10)), OA 12 (.bsl 5 1 1 [.int .u8 0] [(0, TT 11)]), OA 13 (.app 5 1 1 (TT 8) (TT 12)), MM 3 13])) (.reg [MM 6 0, OA 7 (.bin .quo
 (TT 6) (II 256)), MM 0 7]))))) (.seq (.reg [MM 14 3, OA 15 (.call 189 [TT 14])]) (.seq (.reg [MM 16 3, OA 17 (.toStr (TT 16)), MM 2 17]) .ret))))⟩
theorem a7q : l6 eff Tryz.prog Tryz.f80 = some a2X := by kernel_rfl
theorem a7k : Tryz.prog.funcs[80]? = some Tryz.f80 := Tryz.func80
def a4y : p9 := ⟨77, [.cell 4 true 12], .seq (.reg [OA 4 (.alloc 76 [.string ⟨#[]⟩, .bool false, .string ⟨#[]⟩, .string ⟨#[]⟩, .bool false, .string ⟨#[]⟩, .string ⟨#[]⟩, .bool false, .bool false, .string ⟨#[]⟩, .string ⟨#[]⟩, .slice none 0 0])])
 (.seq (.reg [OA 8 (.bsl 9 1 4 [.string ⟨#[]⟩] [(0, .const (.string ⟨#[111, 110, 101]⟩)), (1, .const (.string ⟨#[116, 119, 111]⟩)), (2, .const (.string ⟨#[116, 104, 114, 101, 101]⟩)), (3, .const (.string ⟨#[102, 111, 117,
 114]⟩))]), MM 9 1, OA 10 (.j5 1 (TT 8) (TT 9)), VV 11 10, OA 12 (.build [.string ⟨#[]⟩, .bool false, .string ⟨#[]⟩, .string ⟨#[]⟩, .bool false, .string ⟨#[]⟩, .string ⟨#[]⟩, .bool false, .bool false, .string ⟨#[]⟩, .string
 ⟨#[]⟩, .slice none 0 0] [(0, (1, TT 11))]), OA 5 (.alloc 76 [.string ⟨#[]⟩, .bool false, .string ⟨#[]⟩, .string ⟨#[]⟩, .bool false, .string ⟨#[]⟩, .string ⟨#[]⟩, .bool false, .bool false, .string ⟨#[]⟩, .string ⟨#[]⟩, .slice
 none 0 0]), OB (.store 12 (TT 5) (TT 12))]) (.seq (.D6 [.q, .q, .q, .l, .q, .e none false, .l, .l, .l, .e none false, .q, .q, .q, .q, .q, .e none false] [MM 13 1, OA 14 (.bin .mul (II 40) (TT 13)), OA 15 (.call 177 [TT 14, II
 0]), OA 16 (.bsl 3 1 4 [.int .i64 0] [(0, II 0), (1, II 1), (2, II (-1)), (3, II 1)]), MM 17 0, OA 18 (.call 173 [TT 17, II 4]), OA 19 (.j5 1 (TT 16) (TT 18)), VV 20 19, MM 21 0, OA 22 (.call 173 [TT 21, II 3]), OA 23 (.bin
 .add (II 1) (TT 22)), OA 24 (.call 17 [TT 20, TT 23]), OA 25 (.build [.bool false, .bool false, .string ⟨#[]⟩, .string ⟨#[]⟩] [(1, (3, TT 24))]), OA 26 (.build [.bool false, .string ⟨#[]⟩, .string ⟨#[]⟩, .bool false, .string
 ⟨#[]⟩, .string ⟨#[]⟩, .bool false, .bool false, .string ⟨#[]⟩, .string ⟨#[]⟩] [(0, (6, TT 15)), (6, (4, TT 25))]), FF 27 1 5, OB (.store 10 (TT 27) (TT 26))]) (.seq (.seq (.reg [MM 28 0, OA 29 (.call 173 [TT 28, II 3]), OA 30
 (.bin .add (II 1) (TT 29)), OA 31 (.mv (II 0))]) (.block 0 (.loop (.seq (.reg [OA 32 (.bin .lss (TT 31) (TT 30))]) (.seq (.cond (TT 32) .skip (.exit 0)) (.seq (.block 1 (.seq (.reg [MM 33 0, OA 34 (.call 173 [TT 33, II 4]), OA
 35 (.bin .mul (II 2) (TT 34)), OA 36 (.bin .add (II 4) (TT 35)), MM 6 36]) (.seq (.reg [MM 37 6, OA 38 (.call 17 [TT 37, II 4]), MM 39 0, OA 40 (.call 173 [TT 39, II 6]), OA 41 (.bin .sub (II (-1)) (TT 40)), OA 42 (.call 17 [TT
 41, II 3]), MM 43 0, OA 44 (.call 173 [TT 43, II 6]), OA 45 (.bin .add (II 1) (TT 44)), OA 46 (.call 17 [TT 45, II 3]), MM 47 0, OA 48 (.call 173 [TT 47, II 8]), OA 49 (.bin .add (II 4) (TT 48)), OA 50 (.call 17 [II 1, TT 49]),
 MM 51 0, OA 52 (.call 173 [TT 51, II 20]), OA 53 (.bin .add (II 10) (TT 52)), OA 54 (.call 17 [II 1, TT 53]), MM 55 6, OA 56 (.bin .add (TT 55) (II 1)), OA 57 (.call 175 [II (-1), II (-1), TT 56, II 1]), OA 58 (.build [.bool
 false, .string ⟨#[]⟩, .string ⟨#[]⟩, .bool false, .string ⟨#[]⟩, .string ⟨#[]⟩, .bool false, .string ⟨#[]⟩, .string ⟨#[]⟩, .bool false, .string ⟨#[]⟩, .string ⟨#[]⟩, .bool false, .string ⟨#[]⟩, .string ⟨#[]⟩, .slice none 0 0]
 [(0, (3, TT 38)), (3, (3, TT 42)), (6, (3, TT 46)), (9, (3, TT 50)), (12, (3, TT 54)), (15, (1, TT 57))]), OA 7 (.alloc 158 [.bool false, .string ⟨#[]⟩, .string ⟨#[]⟩, .bool false, .string ⟨#[]⟩, .string ⟨#[]⟩, .bool false,
 .string ⟨#[]⟩, .string ⟨#[]⟩, .bool false, .string ⟨#[]⟩, .string ⟨#[]⟩, .bool false, .string ⟨#[]⟩, .string ⟨#[]⟩, .slice none 0 0]), OB (.store 16 (TT 7) (TT 58))]) (.seq (.seq (.reg [MM 59 0, OA 60 (.call 173 [TT 59, II 3]),
 OA 61 (.bin .eql (TT 60) (II 2))]) (.cond (TT 61) (.reg [OA 62 (.call 177 [II (-1), II (-1)]), MM 63 6, OA 64 (.bin .add (TT 63) (II 1)), OA 65 (.call 177 [TT 64, II 0]), OA 66 (.call 177 [II (-1), II 1]), OA 67 (.bsl 51 6 3
 [.bool false, .string ⟨#[]⟩, .string ⟨#[]⟩, .bool false, .string ⟨#[]⟩, .string ⟨#[]⟩] [(0, TT 62), (1, TT 65), (2, TT 66)]), FF 68 15 7, OB (.store 1 (TT 68) (TT 67))]) .skip)) (.reg [FF 69 11 5, VV 70 69, LL 71 16 7, OA 72
 (.bsl 158 16 1 [.bool false, .string ⟨#[]⟩, .string ⟨#[]⟩, .bool false, .string ⟨#[]⟩, .string ⟨#[]⟩, .bool false, .string ⟨#[]⟩, .string ⟨#[]⟩, .bool false, .string ⟨#[]⟩, .string ⟨#[]⟩, .bool false, .string ⟨#[]⟩, .string
 ⟨#[]⟩, .slice none 0 0] [(0, TT 71)]), OA 73 (.app 158 16 224 (TT 70) (TT 72)), FF 74 11 5, OB (.store 1 (TT 74) (TT 73))]))))) (.reg [OA 75 (.bin .add (TT 31) (II 1)), MM 31 75]))))))) (.seq (.reg [LL 76 12 5, OB (.store 12 (TT
 4) (TT 76))]) .ret))))⟩
theorem b0x : l6 eff Tryz.prog Tryz.f174 = some a4y := by kernel_rfl
theorem a9Z : Tryz.prog.funcs[174]? = some Tryz.f174 := Tryz.func174
def a1G : p9 := ⟨22, [.tmp 8], .seq (.reg [OA 8 (.mv (.const (.slice none 0 0)))]) (.seq (.reg [MM 9 0, MM 10 1, OA 11 (.call 177 [TT 9, TT 10]), MM 12 2, MM 13 1, OA 14 (.call 177 [TT 12, TT 13]), MM 15 2, MM 16 3, OA 17 (.call 177 [TT 15, TT
 16]), MM 18 0, MM 19 3, OA 20 (.call 177 [TT 18, TT 19]), OA 21 (.bsl 51 6 4 [.bool false, .string ⟨#[]⟩, .string ⟨#[]⟩, .bool false, .string ⟨#[]⟩, .string ⟨#[]⟩] [(0, TT 11), (1, TT 14), (2, TT 17), (3, TT 20)]), MM 8 21])
 .ret)⟩
theorem a5p : l6 eff Tryz.prog Tryz.f175 = some a1G := by kernel_rfl
theorem a5t : Tryz.prog.funcs[175]? = some Tryz.f175 := Tryz.func175
def a3W : p9 := ⟨93, [.tmp 2], .seq (.reg [OA 2 (.mv (.const (.slice none 0 0)))]) (.seq (.reg [MM 5 0, OA 6 (.call 173 [TT 5, II 6]), OA 7 (.bin .add (II 1) (TT 6)), MM 8 0, OA 9 (.call 173 [TT 8, II 6]), OA 10 (.bin .add (II 1) (TT 9)), MM 3 7,
 MM 4 10]) (.seq (.seq (.reg [MM 11 0, OA 12 (.call 173 [TT 11, II 4])]) (.block 0 (.seq (.reg [OA 14 (.bin .eql (TT 12) (II 0)), MM 13 14]) (.cond (TT 13) (.seq (.reg [MM 15 3, OA 16 (.un .neg (TT 15)), MM 17 4, OA 18 (.un .neg
 (TT 17)), OA 19 (.call 177 [TT 16, TT 18]), MM 20 3, MM 21 4, OA 22 (.un .neg (TT 21)), OA 23 (.call 177 [TT 20, TT 22]), MM 24 3, MM 25 4, OA 26 (.call 177 [TT 24, TT 25]), MM 27 3, OA 28 (.un .neg (TT 27)), MM 29 4, OA 30
 (.call 177 [TT 28, TT 29]), OA 31 (.bsl 51 6 4 [.bool false, .string ⟨#[]⟩, .string ⟨#[]⟩, .bool false, .string ⟨#[]⟩, .string ⟨#[]⟩] [(0, TT 19), (1, TT 23), (2, TT 26), (3, TT 30)]), MM 2 31]) .ret) (.seq (.reg [OA 33 (.bin
 .eql (TT 12) (II 1)), MM 32 33]) (.cond (TT 32) (.seq (.reg [MM 34 3, OA 35 (.un .neg (TT 34)), MM 36 4, OA 37 (.un .neg (TT 36)), OA 38 (.call 177 [TT 35, TT 37]), MM 39 3, MM 40 4, OA 41 (.un .neg (TT 40)), OA 42 (.call 177
 [TT 39, TT 41]), MM 43 0, MM 44 3, OA 45 (.bin .mul (II 2) (TT 44)), OA 46 (.bin .add (TT 45) (II 1)), OA 47 (.call 173 [TT 43, TT 46]), MM 48 3, OA 49 (.bin .sub (TT 47) (TT 48)), MM 50 4, OA 51 (.call 177 [TT 49, TT 50]), OA
 52 (.bsl 51 6 3 [.bool false, .string ⟨#[]⟩, .string ⟨#[]⟩, .bool false, .string ⟨#[]⟩, .string ⟨#[]⟩] [(0, TT 38), (1, TT 42), (2, TT 51)]), MM 2 52]) .ret) (.seq (.reg [OA 54 (.bin .eql (TT 12) (II 2)), MM 53 54]) (.cond (TT
 53) (.seq (.reg [MM 55 3, OA 56 (.un .neg (TT 55)), OA 57 (.bin .sub (TT 56) (II 1)), MM 58 4, OA 59 (.un .neg (TT 58)), OA 60 (.bin .sub (TT 59) (II 1)), OA 61 (.call 177 [TT 57, TT 60]), MM 62 3, MM 63 4, OA 64 (.un .neg (TT
 63)), OA 65 (.bin .sub (TT 64) (II 1)), OA 66 (.call 177 [TT 62, TT 65]), MM 67 3, OA 68 (.bin .add (TT 67) (II 1)), MM 69 4, OA 70 (.un .neg (TT 69)), OA 71 (.call 177 [TT 68, TT 70]), MM 72 3, OA 73 (.bin .add (TT 72) (II 1)),
 MM 74 4, OA 75 (.call 177 [TT 73, TT 74]), MM 76 3, OA 77 (.un .neg (TT 76)), OA 78 (.bin .sub (TT 77) (II 1)), MM 79 4, OA 80 (.call 177 [TT 78, TT 79]), OA 81 (.bsl 51 6 5 [.bool false, .string ⟨#[]⟩, .string ⟨#[]⟩, .bool
 false, .string ⟨#[]⟩, .string ⟨#[]⟩] [(0, TT 61), (1, TT 66), (2, TT 71), (3, TT 75), (4, TT 80)]), MM 2 81]) .ret) .skip)))))))) (.seq (.reg [MM 82 3, OA 83 (.un .neg (TT 82)), OA 84 (.call 177 [TT 83, II 0]), MM 85 4, OA 86
 (.un .neg (TT 85)), OA 87 (.call 177 [II 0, TT 86]), MM 88 3, OA 89 (.call 177 [TT 88, II 0]), MM 90 4, OA 91 (.call 177 [II 0, TT 90]), OA 92 (.bsl 51 6 4 [.bool false, .string ⟨#[]⟩, .string ⟨#[]⟩, .bool false, .string ⟨#[]⟩,
 .string ⟨#[]⟩] [(0, TT 84), (1, TT 87), (2, TT 89), (3, TT 91)]), MM 2 92]) .ret)))⟩
theorem a9m : l6 eff Tryz.prog Tryz.f176 = some a3W := by kernel_rfl
theorem a8N : Tryz.prog.funcs[176]? = some Tryz.f176 := Tryz.func176
def a5e : p9 := ⟨10, [.cell 4 true 6], .seq (.reg [OA 4 (.alloc 51 [.bool false, .string ⟨#[]⟩, .string ⟨#[]⟩, .bool false, .string ⟨#[]⟩, .string ⟨#[]⟩])]) (.seq (.reg [MM 5 0, OA 6 (.call 17 [TT 5, II 4]), MM 7 1, OA 8 (.call 17 [TT 7, II 4]),
 OA 9 (.build [.bool false, .string ⟨#[]⟩, .string ⟨#[]⟩, .bool false, .string ⟨#[]⟩, .string ⟨#[]⟩] [(0, (3, TT 6)), (3, (3, TT 8))]), OB (.store 6 (TT 4) (TT 9))]) .ret)⟩
theorem b0L : l6 eff Tryz.prog Tryz.f177 = some a5e := by kernel_rfl
theorem b0I : Tryz.prog.funcs[177]? = some Tryz.f177 := Tryz.func177
def W9 : p9 := ⟨33, [.tmp 4], .seq (.reg [OA 4 (.mv (II 0))]) (.seq (.seq (.reg [MM 6 0, OA 7 (.a2g (TT 6)), FF 8 0 7, VV 9 8, OA 10 (.len false (TT 9)), OA 11 (.bin .eql (TT 10) (II 0)), MM 12 11, MG 13 1 12 false, OC 14 (.bin .lss (TT 13)
 (II 1)) 12 false, OA 15 (.pick (TT 12) (.const (.bool true)) (TT 14))]) (.cond (TT 15) (.seq (.reg [OA 4 (.mv (II 0))]) .ret) .skip)) (.seq (.reg [MM 16 0, OA 17 (.a2g (TT 16)), FF 18 0 17, VV 19 18, OA 20 (.j5 1 (TT 19)
 (II 0)), VV 21 20, MM 5 21]) (.seq (.reg [MM 22 0, MM 23 0, OA 24 (.a2g (TT 23)), FF 25 0 24, VV 26 25, OA 27 (.a1Q 1 (TT 26) (some (II 1)) none), OA 28 (.a2g (TT 22)), FF 29 0 28, OB (.store 1 (TT 29) (TT 27))]) (.seq
 (.reg [MM 30 5, MM 31 1, OA 32 (.call 12 [TT 30, TT 31]), MM 4 32]) .ret))))⟩
theorem a4c : l6 eff Tryz.prog Tryz.f173 = some W9 := by kernel_rfl
theorem a4b : Tryz.prog.funcs[173]? = some Tryz.f173 := Tryz.func173
def a2Y : p9 := ⟨48, [.cell 2 true 8, .cell 3 true 5, .tmp 4], .seq (.reg [OA 2 (.alloc 31 [.slice none 0 0, .slice none 0 0, .slice none 0 0, .slice none 0 0, .slice none 0 0, .bool false, .string ⟨#[]⟩, .string ⟨#[]⟩]), OA 3 (.alloc 37 [.int
 .i64 0, .slice none 0 0, .slice none 0 0, .slice none 0 0, .slice none 0 0]), OA 4 (.mv (.const (.bool false)))]) (.seq (.reg [MM 8 0, OA 9 (.call 69 [TT 8]), OA 5 (.alloc 31 [.slice none 0 0, .slice none 0 0, .slice none 0 0,
 .slice none 0 0, .slice none 0 0, .bool false, .string ⟨#[]⟩, .string ⟨#[]⟩]), OB (.store 8 (TT 5) (TT 9))]) (.seq (.reg [LL 11 8 5, OA 12 (.call 46 [TT 11]), MM 10 12, OA 13 (.ext (TT 10) 0), OA 14 (.ext (TT 10) 1), OA 6
 (.alloc 37 [.int .i64 0, .slice none 0 0, .slice none 0 0, .slice none 0 0, .slice none 0 0]), OB (.store 5 (TT 6) (TT 13)), MM 7 14]) (.seq (.D6 [.q, .l, .q, .q, .q, .q, .q, .q, .q, .q, .q, .q, .q, .q, .q, .q, .q, .q, .q, .q,
 .q, .q, .q, .q, .q, .q, .q, .q, .q, .q, .q, .l, .l, .e none false, .e none false, .q] [LL 15 8 5, LL 16 5 6, MM 17 7, OA 18 (.bin .eql (TT 17) (II 0)), MM 19 18, FG 20 1 6 19 true, VG 21 20 19 true, OC 22 (.len false (TT 21)) 19
 true, FG 23 0 5 19 true, VG 24 23 19 true, OC 25 (.len false (TT 24)) 19 true, OC 26 (.bin .eql (TT 22) (TT 25)) 19 true, OA 27 (.pick (TT 19) (TT 26) (.const (.bool false))), MM 28 27, FG 29 2 6 28 true, VG 30 29 28 true, OC 31
 (.len false (TT 30)) 28 true, FG 32 2 5 28 true, VG 33 32 28 true, OC 34 (.len false (TT 33)) 28 true, OC 35 (.bin .eql (TT 31) (TT 34)) 28 true, OA 36 (.pick (TT 28) (TT 35) (.const (.bool false))), MM 37 36, LG 38 8 5 37 true,
 LG 39 5 6 37 true, OC 40 (.call 38 [TT 38, TT 39]) 37 true, OC 41 (.bin .eql (TT 40) (II 0)) 37 true, OA 42 (.pick (TT 37) (TT 41) (.const (.bool false))), MM 43 42, OC 44 (.build [.slice none 0 0, .slice none 0 0, .slice none 0
 0, .slice none 0 0, .slice none 0 0, .bool false, .string ⟨#[]⟩, .string ⟨#[]⟩] []) 43 true, OC 45 (.call 23 [TT 44]) 43 true, OC 46 (.bin .eql (TT 45) (II 4)) 43 true, OA 47 (.pick (TT 43) (TT 46) (.const (.bool false))), OB
 (.store 8 (TT 2) (TT 15)), OB (.store 5 (TT 3) (TT 16)), MM 4 47]) .ret)))⟩
theorem a7l : l6 eff Tryz.prog Tryz.f10 = some a2Y := by kernel_rfl
theorem a7u : Tryz.prog.funcs[10]? = some Tryz.f10 := Tryz.func10
def P8 : p9 := ⟨9, [.tmp 4], .seq (.reg [OA 4 (.mv (.const (.bool false)))]) (.seq (.reg [MM 5 0, MM 6 1, OA 7 (.call 152 [TT 5, TT 6]), OA 8 (.bin .geq (TT 7) (II 0)), MM 4 8]) .ret)⟩
theorem a0A : l6 eff Tryz.prog Tryz.f44 = some P8 := by kernel_rfl
theorem a0w : Tryz.prog.funcs[44]? = some Tryz.f44 := Tryz.func44
def M9 : p9 := ⟨9, [.tmp 4], .seq (.reg [OA 4 (.mv (.const (.bool false)))]) (.seq (.reg [MM 5 0, MM 6 1, OA 7 (.call 209 [TT 5, TT 6]), OA 8 (.bin .geq (TT 7) (II 0)), MM 4 8]) .ret)⟩
theorem a0f : l6 eff Tryz.prog Tryz.f134 = some M9 := by kernel_rfl
theorem Z9 : Tryz.prog.funcs[134]? = some Tryz.f134 := Tryz.func134
def P9 : p9 := ⟨9, [.tmp 4], .seq (.reg [OA 4 (.mv (.const (.bool false)))]) (.seq (.reg [MM 5 0, MM 6 1, OA 7 (.call 210 [TT 5, TT 6]), OA 8 (.bin .geq (TT 7) (II 0)), MM 4 8]) .ret)⟩
theorem a0x : l6 eff Tryz.prog Tryz.f137 = some P9 := by kernel_rfl
theorem a0z : Tryz.prog.funcs[137]? = some Tryz.f137 := Tryz.func137
def R9 : p9 := ⟨19, [.tmp 4], .seq (.reg [OA 4 (.mv (II 0))]) (.seq (.seq (.reg [MM 6 0, OA 7 (.len false (TT 6)), OA 8 (.mv (II 0))]) (.block 0 (.loop (.seq (.reg [OA 9 (.bin .lss (TT 8) (TT 7))]) (.seq (.cond (TT 9) .skip (.exit 0)) (.seq
 (.block 1 (.seq (.reg [MM 10 8, MM 5 10]) (.seq (.reg [MM 11 1, MM 12 0, MM 13 5, OA 14 (.j5 3 (TT 12) (TT 13)), LL 15 3 14, OA 16 (.L6 (TT 11) [TT 15])]) (.cond (TT 16) (.seq (.reg [MM 17 5, MM 4 17]) .ret) .skip))))
 (.reg [OA 18 (.bin .add (TT 8) (II 1)), MM 8 18]))))))) (.seq (.reg [OA 4 (.mv (II (-1)))]) .ret))⟩
theorem a0R : l6 eff Tryz.prog Tryz.f152 = some R9 := by kernel_rfl
theorem a0P : Tryz.prog.funcs[152]? = some Tryz.f152 := Tryz.func152
def a0h : p9 := ⟨28, [], .seq (.reg [MM 4 0, OA 5 (.len false (TT 4)), OA 6 (.bin .sub (TT 5) (II 1)), OA 2 (.mv (II 0)), MM 3 6]) (.block 0 (.loop (.seq (.seq (.reg [MM 7 2, MM 8 3, OA 9 (.bin .lss (TT 7) (TT 8))]) (.cond (TT 9) .skip (.exit
 0))) (.seq (.block 1 (.D6 [.q, .q, .l, .l, .q, .q, .q, .q, .q, .q, .q, .q, .q, .e none false, .q, .e none false] [MM 14 0, MM 15 2, MM 16 0, MM 17 3, MM 18 0, MM 19 3, OA 20 (.j5 1 (TT 18) (TT 19)), VV 21 20, MM 22 0, MM 23
 2, OA 24 (.j5 1 (TT 22) (TT 23)), VV 25 24, OA 26 (.j5 1 (TT 14) (TT 15)), OB (.store 1 (TT 26) (TT 21)), OA 27 (.j5 1 (TT 16) (TT 17)), OB (.store 1 (TT 27) (TT 25))])) (.reg [MM 10 2, OA 11 (.bin .add (TT 10) (II 1)),
 MM 12 3, OA 13 (.bin .sub (TT 12) (II 1)), MM 2 11, MM 3 13])))))⟩
theorem a2R : l6 eff Tryz.prog Tryz.f189 = some a0h := by kernel_rfl
theorem a2T : Tryz.prog.funcs[189]? = some Tryz.f189 := Tryz.func189
def O8 : p9 := ⟨19, [.tmp 4], .seq (.reg [OA 4 (.mv (II 0))]) (.seq (.seq (.reg [MM 6 0, OA 7 (.len false (TT 6)), OA 8 (.mv (II 0))]) (.block 0 (.loop (.seq (.reg [OA 9 (.bin .lss (TT 8) (TT 7))]) (.seq (.cond (TT 9) .skip (.exit 0)) (.seq
 (.block 1 (.seq (.reg [MM 10 8, MM 5 10]) (.seq (.reg [MM 11 1, MM 12 0, MM 13 5, OA 14 (.j5 10 (TT 12) (TT 13)), LL 15 10 14, OA 16 (.L6 (TT 11) [TT 15])]) (.cond (TT 16) (.seq (.reg [MM 17 5, MM 4 17]) .ret) .skip))))
 (.reg [OA 18 (.bin .add (TT 8) (II 1)), MM 8 18]))))))) (.seq (.reg [OA 4 (.mv (II (-1)))]) .ret))⟩
theorem a0t : l6 eff Tryz.prog Tryz.f209 = some O8 := by kernel_rfl
theorem a0s : Tryz.prog.funcs[209]? = some Tryz.f209 := Tryz.func209
def R7 : p9 := ⟨19, [.tmp 4], .seq (.reg [OA 4 (.mv (II 0))]) (.seq (.seq (.reg [MM 6 0, OA 7 (.len false (TT 6)), OA 8 (.mv (II 0))]) (.block 0 (.loop (.seq (.reg [OA 9 (.bin .lss (TT 8) (TT 7))]) (.seq (.cond (TT 9) .skip (.exit 0)) (.seq
 (.block 1 (.seq (.reg [MM 10 8, MM 5 10]) (.seq (.reg [MM 11 1, MM 12 0, MM 13 5, OA 14 (.j5 6 (TT 12) (TT 13)), LL 15 6 14, OA 16 (.L6 (TT 11) [TT 15])]) (.cond (TT 16) (.seq (.reg [MM 17 5, MM 4 17]) .ret) .skip))))
 (.reg [OA 18 (.bin .add (TT 8) (II 1)), MM 8 18]))))))) (.seq (.reg [OA 4 (.mv (II (-1)))]) .ret))⟩
theorem a0Y : l6 eff Tryz.prog Tryz.f210 = some R7 := by kernel_rfl
theorem a1d : Tryz.prog.funcs[210]? = some Tryz.f210 := Tryz.func210
end Go.Proofs.YtogfpjohjphngaaGreatDoor
namespace Go.Proofs.YtogfpjohjphngaaGreatDoor
set_option linter.all false
open Go Go.RowKit Eng
set_option maxRecDepth 10000
set_option maxHeartbeats 4000000
def U8 (b : UInt8) : Bool := decide (97 <= b.toNat) && decide (b.toNat <= 122)
theorem b1Y {s : List UInt8} {i : Nat} (hi : i < s.length) (h : U8 s[i] = false) : a0S s = false := by
 unfold a0S
 have : (s.all fun b => decide (97 <= b.toNat) && decide (b.toNat <= 122)) = false := by
  rw [List.all_eq_false]
  exact ⟨s[i], List.getElem_mem hi, by unfold U8 at h; rw [h]; decide⟩
 rw [this]
 rfl
theorem b3h {s : List UInt8} (h : ∀ j (h : j < s.length), U8 s[j] = true) : a0S s = (decide (1 <= s.length) && decide (s.length <= 12)) := by
 unfold a0S
 have : (s.all fun b => decide (97 <= b.toNat) && decide (b.toNat <= 122)) = true := by
  rw [List.all_eq_true]
  intro x hx
  obtain ⟨j, hj, rfl⟩ := List.mem_iff_getElem.1 hx
  exact h j hj
 rw [this, Bool.true_and]
theorem c0E (s : List UInt8) (hs : s.length <= 1099511627776) : A8 Tryz.prog 198 [sb s] (.v (.bool (a0S s))) := by
  refine A8.of b2O b2E (by exact Nat.le_of_ble_eq_true rfl) fun w O => ?_
  simp only [a6t, l9, TT, II, OA, OB, OC, MM, LL, VV, FF, MG, LG, VG, FG, sb]
  (repeat first | refine uA ?_ | (apply S.exit; exact rfl) | ((with_reducible refine And.intro ?_ ?_); focus first | omega | trivial | exact id | (intros; simp_all <;> omega)) | simp (disch := omega) only [go_sem, Nat.reduceBEq, Nat.reduceAdd, Nat.reduceLeDiff, Int.reduceToNat, Int.reducePow, ww, E8])
  refine S.loop (X := Nat) (fun i => ⟨[(0, sb s), (5, ints s.length), (6, ints i)], []⟩) (fun i => i <= s.length /\ ∀ j (h : j < s.length), j < i -> U8 s[j] = true) (fun i => s.length - i) 0 ⟨Nat.zero_le _, fun _ _ h => absurd h (Nat.not_lt_zero _)⟩ (by (repeat first | refine uA ?_ | (refine ⟨?_, ?_⟩; focus first | rfl | trivial | (simp [slot]; done)) | rfl | trivial | simp)) ?_
  rintro i ⟨hi, hg⟩
  simp only [sb, ints]
  (repeat first | refine uA ?_ | (apply S.exit; exact rfl) | ((with_reducible refine And.intro ?_ ?_); focus first | omega | trivial | exact id | (intros; simp_all <;> omega)) | simp (disch := omega) only [go_sem, Nat.reduceBEq, Nat.reduceAdd, Nat.reduceLeDiff, Int.reduceToNat, Int.reducePow, ww])
  (refine uJ rfl (fun hc => ?_) fun hc => ?_)
  · have hi' : i < s.length := by omega
    have hgi : s.getD i 0 = s[i] := by rw [List.getD_eq_getElem?_getD, List.getElem?_eq_getElem hi']; rfl
    (repeat first | refine uA ?_ | (apply S.exit; exact rfl) | ((with_reducible refine And.intro ?_ ?_); focus first | omega | trivial | exact id | (intros; simp_all <;> omega)) | simp (disch := omega) only [go_sem, Nat.reduceBEq, Nat.reduceAdd, Nat.reduceLeDiff, Int.reduceToNat, Int.reducePow, ww, E8, O7, hgi, Int.toNat_natCast])
    refine S.cond rfl (fun hc => ?_) (fun hc => ?_)
    · have hl : U8 s[i] = false := by
        unfold U8
        simp only [Bool.or_eq_true, decide_eq_true_eq] at hc
        rw [Bool.and_eq_false_iff, decide_eq_false_iff_not, decide_eq_false_iff_not]
        omega
      rw [b1Y hi' hl]
      (repeat first | refine uA ?_ | (apply S.exit; exact rfl) | ((with_reducible refine And.intro ?_ ?_); focus first | omega | trivial | exact id | (intros; simp_all <;> omega)) | simp (disch := omega) only [go_sem, Nat.reduceBEq, Nat.reduceAdd, Nat.reduceLeDiff, Int.reduceToNat, Int.reducePow, ww])
      exact S.done (d9.out rfl (Imp.refl rfl) rfl)
    · have hl : U8 s[i] = true := by
        unfold U8
        simp only [Bool.or_eq_false_iff, decide_eq_false_iff_not] at hc
        rw [Bool.and_eq_true, decide_eq_true_eq, decide_eq_true_eq]
        omega
      (repeat first | refine uA ?_ | (apply S.exit; exact rfl) | ((with_reducible refine And.intro ?_ ?_); focus first | omega | trivial | exact id | (intros; simp_all <;> omega)) | simp (disch := omega) only [go_sem, Nat.reduceBEq, Nat.reduceAdd, Nat.reduceLeDiff, Int.reduceToNat, Int.reducePow, ww])
      refine S.next (i + 1) ⟨by omega, fun j h hj => ?_⟩ (by omega) (by (repeat first | refine uA ?_ | (refine ⟨?_, ?_⟩; focus first | rfl | trivial | (simp [slot]; done)) | rfl | trivial | simp))
      rcases Nat.lt_or_ge j i with h1 | h1
      · exact hg j h h1
      · have : j = i := by omega
        subst this
        exact hl
  · have hi' : i = s.length := by omega
    subst hi'
    have e1 : decide ((1 : Int) <= (s.length : Int)) = decide (1 <= s.length) := decide_eq_decide.2 (by omega)
    have e2 : decide ((s.length : Int) <= 12) = decide (s.length <= 12) := decide_eq_decide.2 (by omega)
    rw [b3h fun j h => hg j h h]
    (repeat first | refine uA ?_ | (apply S.exit; exact rfl) | ((with_reducible refine And.intro ?_ ?_); focus first | omega | trivial | exact id | (intros; simp_all <;> omega)) | simp (disch := omega) only [go_sem, Nat.reduceBEq, Nat.reduceAdd, Nat.reduceLeDiff, Int.reduceToNat, Int.reducePow, ww, E8, e1, e2])
    (try simp only [e1, e2, go_sem])
    exact S.done (d9.out rfl (Imp.refl rfl) rfl)
theorem c2d (s : List UInt8) (hs : s.length <= 1099511627776) : A8 Tryz.prog 19 [sb s] (.v (.bool (a0S s))) := by
  refine A8.of b2w b2K (by exact Nat.le_of_ble_eq_true rfl) fun w O => ?_
  simp only [a6m, l9, TT, II, OA, OB, OC, MM, LL, VV, FF, MG, LG, VG, FG, sb]
  (repeat first | refine uA ?_ | (apply S.exit; exact rfl) | ((with_reducible refine And.intro ?_ ?_); focus first | omega | trivial | exact id | (intros; simp_all <;> omega)) | simp (disch := omega) only [go_sem, Nat.reduceBEq, Nat.reduceAdd, Nat.reduceLeDiff, Int.reduceToNat, Int.reducePow, ww, E8])
  refine S.loop (X := Nat) (fun i => ⟨[(0, sb s), (5, ints s.length), (6, ints i)], []⟩) (fun i => i <= s.length /\ ∀ j (h : j < s.length), j < i -> U8 s[j] = true) (fun i => s.length - i) 0 ⟨Nat.zero_le _, fun _ _ h => absurd h (Nat.not_lt_zero _)⟩ (by (repeat first | refine uA ?_ | (refine ⟨?_, ?_⟩; focus first | rfl | trivial | (simp [slot]; done)) | rfl | trivial | simp)) ?_
  rintro i ⟨hi, hg⟩
  simp only [sb, ints]
  (repeat first | refine uA ?_ | (apply S.exit; exact rfl) | ((with_reducible refine And.intro ?_ ?_); focus first | omega | trivial | exact id | (intros; simp_all <;> omega)) | simp (disch := omega) only [go_sem, Nat.reduceBEq, Nat.reduceAdd, Nat.reduceLeDiff, Int.reduceToNat, Int.reducePow, ww])
  (refine uJ rfl (fun hc => ?_) fun hc => ?_)
  · have hi' : i < s.length := by omega
    have hgi : s.getD i 0 = s[i] := by rw [List.getD_eq_getElem?_getD, List.getElem?_eq_getElem hi']; rfl
    (repeat first | refine uA ?_ | (apply S.exit; exact rfl) | ((with_reducible refine And.intro ?_ ?_); focus first | omega | trivial | exact id | (intros; simp_all <;> omega)) | simp (disch := omega) only [go_sem, Nat.reduceBEq, Nat.reduceAdd, Nat.reduceLeDiff, Int.reduceToNat, Int.reducePow, ww, E8, O7, hgi, Int.toNat_natCast])
    refine S.cond rfl (fun hc => ?_) (fun hc => ?_)
    · have hl : U8 s[i] = false := by
        unfold U8
        simp only [Bool.or_eq_true, decide_eq_true_eq] at hc
        rw [Bool.and_eq_false_iff, decide_eq_false_iff_not, decide_eq_false_iff_not]
        omega
      rw [b1Y hi' hl]
      (repeat first | refine uA ?_ | (apply S.exit; exact rfl) | ((with_reducible refine And.intro ?_ ?_); focus first | omega | trivial | exact id | (intros; simp_all <;> omega)) | simp (disch := omega) only [go_sem, Nat.reduceBEq, Nat.reduceAdd, Nat.reduceLeDiff, Int.reduceToNat, Int.reducePow, ww])
      exact S.done (d9.out rfl (Imp.refl rfl) rfl)
    · have hl : U8 s[i] = true := by
        unfold U8
        simp only [Bool.or_eq_false_iff, decide_eq_false_iff_not] at hc
        rw [Bool.and_eq_true, decide_eq_true_eq, decide_eq_true_eq]
        omega
      (repeat first | refine uA ?_ | (apply S.exit; exact rfl) | ((with_reducible refine And.intro ?_ ?_); focus first | omega | trivial | exact id | (intros; simp_all <;> omega)) | simp (disch := omega) only [go_sem, Nat.reduceBEq, Nat.reduceAdd, Nat.reduceLeDiff, Int.reduceToNat, Int.reducePow, ww])
      refine S.next (i + 1) ⟨by omega, fun j h hj => ?_⟩ (by omega) (by (repeat first | refine uA ?_ | (refine ⟨?_, ?_⟩; focus first | rfl | trivial | (simp [slot]; done)) | rfl | trivial | simp))
      rcases Nat.lt_or_ge j i with h1 | h1
      · exact hg j h h1
      · have : j = i := by omega
        subst this
        exact hl
  · have hi' : i = s.length := by omega
    subst hi'
    have e1 : decide ((1 : Int) <= (s.length : Int)) = decide (1 <= s.length) := decide_eq_decide.2 (by omega)
    have e2 : decide ((s.length : Int) <= 12) = decide (s.length <= 12) := decide_eq_decide.2 (by omega)
    rw [b3h fun j h => hg j h h]
    (repeat first | refine uA ?_ | (apply S.exit; exact rfl) | ((with_reducible refine And.intro ?_ ?_); focus first | omega | trivial | exact id | (intros; simp_all <;> omega)) | simp (disch := omega) only [go_sem, Nat.reduceBEq, Nat.reduceAdd, Nat.reduceLeDiff, Int.reduceToNat, Int.reducePow, ww, E8, e1, e2])
    (try simp only [e1, e2, go_sem])
    exact S.done (d9.out rfl (Imp.refl rfl) rfl)
theorem a9j (l : List Nm.Rt) (hl : Rbs 17179869184 l) : FZ 199 [rts l] (.v (.bool (l.all p8))) := by
  refine q8.of b4m b4T (by exact Nat.le_of_ble_eq_true rfl) fun w O hw => ?_
  obtain ⟨hn, hb⟩ := hl
  simp only [a7A, l9, TT, II, OA, OB, OC, MM, LL, VV, FF, MG, LG, VG, FG, rts]
  (repeat first | refine uA ?_ | (apply S.exit; exact rfl) | ((with_reducible refine And.intro ?_ ?_); focus first | omega | trivial | exact id | (intros; simp_all <;> omega)) | simp (disch := omega) only [go_sem, Nat.reduceBEq, Nat.reduceAdd, Nat.reduceLeDiff, Int.reduceToNat, Int.reducePow, ww, List.length_map])
  refine S.loop (X := Nat) (fun i => ⟨[(5, rts l), (6, ints l.length), (7, ints i)], []⟩) (fun i => i <= l.length /\ l.all p8 = (l.drop i).all p8) (fun i => l.length - i) 0 ⟨Nat.zero_le _, rfl⟩ (by (repeat first | refine uA ?_ | (refine ⟨?_, ?_⟩; focus first | rfl | trivial | (simp [slot]; done)) | rfl | trivial | simp)) ?_
  rintro i ⟨hi, hg⟩
  simp only [rts, ints]
  (repeat first | refine uA ?_ | (apply S.exit; exact rfl) | ((with_reducible refine And.intro ?_ ?_); focus first | omega | trivial | exact id | (intros; simp_all <;> omega)) | simp (disch := omega) only [go_sem, Nat.reduceBEq, Nat.reduceAdd, Nat.reduceLeDiff, Int.reduceToNat, Int.reducePow, ww])
  (refine uJ rfl (fun hc => ?_) fun hc => ?_)
  · have hi' : i < l.length := by omega
    have hgi := List.getElem?_eq_getElem hi'
    generalize l[i] = x at hgi
    have hd := drop_at hgi
    have hs := a3u x (hb x (List.mem_of_getElem? hgi))
    simp only [rc] at hs
    simp only [sb] at hs
    (repeat first | refine uA ?_ | (apply S.exit; exact rfl) | ((with_reducible refine And.intro ?_ ?_); focus first | omega | trivial | exact id | (intros; simp_all <;> omega)) | simp (disch := omega) only [go_sem, Nat.reduceBEq, Nat.reduceAdd, Nat.reduceLeDiff, Int.reduceToNat, Int.reducePow, ww, hgi, Option.map_some, List.length_map, rcs, sb] | (refine uD hs ?_ ?_ ?_; exact tz hw; exact rfl))
    refine S.cond rfl (fun hc => ?_) (fun hc => ?_)
    · have : l.all p8 = false := by
        rw [hg, hd, List.all_cons]
        simp only [Bool.not_eq_true'] at hc
        rw [hc]; rfl
      rw [this]
      (repeat first | refine uA ?_ | (apply S.exit; exact rfl) | ((with_reducible refine And.intro ?_ ?_); focus first | omega | trivial | exact id | (intros; simp_all <;> omega)) | simp (disch := omega) only [go_sem, Nat.reduceBEq, Nat.reduceAdd, Nat.reduceLeDiff, Int.reduceToNat, Int.reducePow, ww])
      exact S.done (d9.out rfl (Imp.refl rfl) rfl)
    · (repeat first | refine uA ?_ | (apply S.exit; exact rfl) | ((with_reducible refine And.intro ?_ ?_); focus first | omega | trivial | exact id | (intros; simp_all <;> omega)) | simp (disch := omega) only [go_sem, Nat.reduceBEq, Nat.reduceAdd, Nat.reduceLeDiff, Int.reduceToNat, Int.reducePow, ww])
      refine S.next (i + 1) ⟨by omega, ?_⟩ (by omega) (by (repeat first | refine uA ?_ | (refine ⟨?_, ?_⟩; focus first | rfl | trivial | (simp [slot]; done)) | rfl | trivial | simp))
      rw [hg, hd, List.all_cons]
      simp only [Bool.not_eq_false'] at hc
      rw [hc]; rfl
  · have : l.all p8 = true := by rw [hg, List.drop_eq_nil_of_le (by omega)]; rfl
    rw [this]
    (repeat first | refine uA ?_ | (apply S.exit; exact rfl) | ((with_reducible refine And.intro ?_ ?_); focus first | omega | trivial | exact id | (intros; simp_all <;> omega)) | simp (disch := omega) only [go_sem, Nat.reduceBEq, Nat.reduceAdd, Nat.reduceLeDiff, Int.reduceToNat, Int.reducePow, ww])
    exact S.done (d9.out rfl (Imp.refl rfl) rfl)
end Go.Proofs.YtogfpjohjphngaaGreatDoor
namespace Go.Proofs.YtogfpjohjphngaaGreatDoor
set_option linter.all false
open Go Go.RowKit Eng
set_option maxRecDepth 10000
set_option maxHeartbeats 4000000
namespace Eng
def frS (fr : List (Nat × C)) : List (Nat × C) -> Prop
 | [] => True
 | (t, s) :: r => (s = .junk \/ slot fr t = s) /\ frS fr r
theorem b4A {fr : List (Nat × C)} : ∀ {fr' : List (Nat × C)}, frS fr fr' -> ∀ t, slot fr' t = .junk \/ slot fr t = slot fr' t
 | [], _, t => .inl rfl
 | (u, s) :: r, h, t => by
  simp only [slot]
  cases hb : (u == t) with
  | true =>
   have : u = t := by simpa using hb
   subst this
   exact h.1
  | false => exact b4A h.2 t
theorem Ent.fr {E : Ctx} {fr fr' : List (Nat × C)} {rs rs' : List Res} (h : rs = rs') (hf : frS fr fr') : Ent E ⟨fr, rs⟩ ⟨fr', rs'⟩ := by
 subst h
 intro wf ν a w hG
 refine ⟨ν, hG.dfr, hG.size, fun t => ?_, hG.rg, hG.frm, hG.nu⟩
 rcases b4A hf t with e | e
 ·rw [e]; simp only [Den]
 ·rw [<- e]; exact hG.fr t
end Eng
def a3b {α : Type} (p : α -> Bool) (l : List α) : Int := match l.findIdx? p with | some i => i | none => -1
theorem a8W {α : Type} {p : α -> Bool} {l : List α} {i : Nat} {x : α} (h : l[i]? = some x) (hp : p x = true) (hm : ∀ j, j < i -> ∀ y, l[j]? = some y -> p y = false) : a3b p l = i := by
 obtain ⟨hi, rfl⟩ := List.getElem?_eq_some_iff.1 h
 have : l.findIdx? p = some i := by
  rw [List.findIdx?_eq_some_iff_getElem]
  refine ⟨hi, hp, fun j hj => ?_⟩
  simp [hm j hj l[j] (List.getElem?_eq_getElem _)]
 unfold a3b
 rw [this]
theorem a6V {α : Type} {p : α -> Bool} {l : List α} (hm : ∀ j, j < l.length -> ∀ y, l[j]? = some y -> p y = false) : a3b p l = -1 := by
 have : l.findIdx? p = none := by
  rw [List.findIdx?_eq_none_iff]
  intro x hx
  obtain ⟨j, hj⟩ := List.mem_iff_getElem?.1 hx
  exact hm j (List.getElem?_eq_some_iff.1 hj).1 x hj
 unfold a3b
 rw [this]
theorem a9e {α : Type} (p : α -> Bool) (l : List α) : decide (0 <= a3b p l) = l.any p := by
 unfold a3b
 cases h : l.findIdx? p with
 | none =>
  rw [List.findIdx?_eq_none_iff] at h
  have : l.any p = false := by rw [List.any_eq_false]; intro x hx; simp [h x hx]
  rw [this]; rfl
 | some i =>
  rw [List.findIdx?_eq_some_iff_getElem] at h
  obtain ⟨h1, h2, _⟩ := h
  have : l.any p = true := by rw [List.any_eq_true]; exact ⟨_, List.getElem_mem h1, h2⟩
  rw [this]
  exact decide_eq_true (show (0 : Int) <= (i : Int) by omega)
theorem c0H (g : Nat) (hcal : callable Tryz.prog g = true) (p : Vt -> Bool) (l : List Vt) (hn : l.length <= 1099511627776) (hg : ∀ x ∈ l, FZ g [x.c] (.v (.bool (p x)))) :
  FZ 210 [vts l, .v (.func (.func g) #[] #[])] (ints (a3b p l)) := by
 refine q8.of a1d a0Y (by exact Nat.le_of_ble_eq_true rfl) fun w O hw => ?_
 simp only [R7, l9, TT, II, OA, OB, OC, MM, LL, VV, FF, MG, LG, VG, FG, vts]
 (repeat first | refine uA ?_ | (apply S.exit; exact rfl) | ((with_reducible refine And.intro ?_ ?_); focus first | omega | trivial | exact id | (intros; simp_all <;> omega)) | simp (disch := omega) only [go_sem, Nat.reduceBEq, Nat.reduceAdd, Nat.reduceLeDiff, Int.reduceToNat, Int.reducePow, ww, List.length_map])
 refine S.loop (X := Nat) (fun i => ⟨[(0, vts l), (1, .v (.func (.func g) #[] #[])), (7, ints l.length), (8, ints i)], []⟩) (fun i => i <= l.length /\ ∀ j, j < i -> ∀ x, l[j]? = some x -> p x = false) (fun i => l.length - i) 0 ⟨Nat.zero_le _, fun _ h => absurd h (Nat.not_lt_zero _)⟩ (by (repeat first | refine uA ?_ | (refine ⟨?_, ?_⟩; focus first | rfl | trivial | (simp [slot]; done)) | rfl | trivial | simp)) ?_
 rintro i ⟨hi, hm⟩
 simp only [vts, ints]
 (repeat first | refine uA ?_ | (apply S.exit; exact rfl) | ((with_reducible refine And.intro ?_ ?_); focus first | omega | trivial | exact id | (intros; simp_all <;> omega)) | simp (disch := omega) only [go_sem, Nat.reduceBEq, Nat.reduceAdd, Nat.reduceLeDiff, Int.reduceToNat, Int.reducePow, ww])
 (refine uJ rfl (fun hc => ?_) fun hc => ?_)
 ·have hi' : i < l.length := by omega
  have hgi := List.getElem?_eq_getElem hi'
  generalize l[i] = x at hgi
  have hs := hg x (List.mem_of_getElem? hgi)
  simp only [Vt.c, Vt.enc, sb] at hs
  (repeat first | refine uA ?_ | (apply S.exit; exact rfl) | ((with_reducible refine And.intro ?_ ?_); focus first | omega | trivial | exact id | (intros; simp_all <;> omega)) | simp (disch := omega) only [go_sem, Nat.reduceBEq, Nat.reduceAdd, Nat.reduceLeDiff, Int.reduceToNat, Int.reducePow, ww, hgi, Option.map_some, List.length_map, Vt.c, Vt.enc, sb, Int.toNat_natCast, hcal] | (refine uD hs ?_ ?_ ?_; exact tz hw; exact rfl))
  refine S.cond rfl (fun hc2 => ?_) (fun hc2 => ?_)
  ·rw [a8W hgi hc2 hm]
   (repeat first | refine uA ?_ | (apply S.exit; exact rfl) | ((with_reducible refine And.intro ?_ ?_); focus first | omega | trivial | exact id | (intros; simp_all <;> omega)) | simp (disch := omega) only [go_sem, Nat.reduceBEq, Nat.reduceAdd, Nat.reduceLeDiff, Int.reduceToNat, Int.reducePow, ww])
   exact S.done (d9.out rfl (Imp.refl rfl) rfl)
  ·(repeat first | refine uA ?_ | (apply S.exit; exact rfl) | ((with_reducible refine And.intro ?_ ?_); focus first | omega | trivial | exact id | (intros; simp_all <;> omega)) | simp (disch := omega) only [go_sem, Nat.reduceBEq, Nat.reduceAdd, Nat.reduceLeDiff, Int.reduceToNat, Int.reducePow, ww])
   refine S.next (i + 1) ⟨by omega, fun j hj y hy => ?_⟩ (by omega) (by (repeat first | refine uA ?_ | (refine ⟨?_, ?_⟩; focus first | rfl | trivial | (simp [slot]; done)) | rfl | trivial | simp))
   rcases Nat.lt_or_ge j i with h1 | h1
   ·exact hm j h1 y hy
   ·have : j = i := by omega
    subst this
    rw [hgi] at hy
    cases hy
    exact hc2
 ·have hi' : i = l.length := by omega
  subst hi'
  rw [a6V hm]
  (repeat first | refine uA ?_ | (apply S.exit; exact rfl) | ((with_reducible refine And.intro ?_ ?_); focus first | omega | trivial | exact id | (intros; simp_all <;> omega)) | simp (disch := omega) only [go_sem, Nat.reduceBEq, Nat.reduceAdd, Nat.reduceLeDiff, Int.reduceToNat, Int.reducePow, ww])
  exact S.done (d9.out rfl (Imp.refl rfl) rfl)
theorem b4L (g : Nat) (hcal : callable Tryz.prog g = true) (p : Vt -> Bool) (l : List Vt) (hn : l.length <= 1099511627776) (hg : ∀ x ∈ l, FZ g [x.c] (.v (.bool (p x)))) :
  FZ 137 [vts l, .v (.func (.func g) #[] #[])] (.v (.bool (l.any p))) := by
 refine q8.of a0z a0x (by exact Nat.le_of_ble_eq_true rfl) fun w O hw => ?_
 have h := c0H g hcal p l hn hg
 have e := a9e p l
 generalize a3b p l = n at *
 simp only [P9, l9, TT, II, OA, OB, OC, MM, LL, VV, FF, MG, LG, VG, FG]
 simp only [vts, ints] at *
 (repeat first | refine uA ?_ | (apply S.exit; exact rfl) | ((with_reducible refine And.intro ?_ ?_); focus first | omega | trivial | exact id | (intros; simp_all <;> omega)) | simp (disch := omega) only [go_sem, Nat.reduceBEq, Nat.reduceAdd, Nat.reduceLeDiff, Int.reduceToNat, Int.reducePow, ww] | (refine uD h ?_ ?_ ?_; exact tz hw; exact rfl))
 rw [e]
 exact S.done (d9.out rfl (Imp.refl rfl) rfl)
theorem c0s (g : Nat) (hcal : callable Tryz.prog g = true) (p : Nm.Rt -> Bool) (l : List Nm.Rt) (hn : l.length <= 1099511627776) (hg : ∀ x ∈ l, FZ g [rc x] (.v (.bool (p x)))) :
  FZ 152 [rts l, .v (.func (.func g) #[] #[])] (ints (a3b p l)) := by
 refine q8.of a0P a0R (by exact Nat.le_of_ble_eq_true rfl) fun w O hw => ?_
 simp only [R9, l9, TT, II, OA, OB, OC, MM, LL, VV, FF, MG, LG, VG, FG, rts]
 (repeat first | refine uA ?_ | (apply S.exit; exact rfl) | ((with_reducible refine And.intro ?_ ?_); focus first | omega | trivial | exact id | (intros; simp_all <;> omega)) | simp (disch := omega) only [go_sem, Nat.reduceBEq, Nat.reduceAdd, Nat.reduceLeDiff, Int.reduceToNat, Int.reducePow, ww, List.length_map])
 refine S.loop (X := Nat) (fun i => ⟨[(0, rts l), (1, .v (.func (.func g) #[] #[])), (7, ints l.length), (8, ints i)], []⟩) (fun i => i <= l.length /\ ∀ j, j < i -> ∀ x, l[j]? = some x -> p x = false) (fun i => l.length - i) 0 ⟨Nat.zero_le _, fun _ h => absurd h (Nat.not_lt_zero _)⟩ (by (repeat first | refine uA ?_ | (refine ⟨?_, ?_⟩; focus first | rfl | trivial | (simp [slot]; done)) | rfl | trivial | simp)) ?_
 rintro i ⟨hi, hm⟩
 simp only [rts, ints]
 (repeat first | refine uA ?_ | (apply S.exit; exact rfl) | ((with_reducible refine And.intro ?_ ?_); focus first | omega | trivial | exact id | (intros; simp_all <;> omega)) | simp (disch := omega) only [go_sem, Nat.reduceBEq, Nat.reduceAdd, Nat.reduceLeDiff, Int.reduceToNat, Int.reducePow, ww])
 (refine uJ rfl (fun hc => ?_) fun hc => ?_)
 ·have hi' : i < l.length := by omega
  have hgi := List.getElem?_eq_getElem hi'
  generalize l[i] = x at hgi
  have hs := hg x (List.mem_of_getElem? hgi)
  simp only [rc, rcs, sb] at hs
  (repeat first | refine uA ?_ | (apply S.exit; exact rfl) | ((with_reducible refine And.intro ?_ ?_); focus first | omega | trivial | exact id | (intros; simp_all <;> omega)) | simp (disch := omega) only [go_sem, Nat.reduceBEq, Nat.reduceAdd, Nat.reduceLeDiff, Int.reduceToNat, Int.reducePow, ww, hgi, Option.map_some, List.length_map, rc, rcs, sb, Int.toNat_natCast, hcal] | (refine uD hs ?_ ?_ ?_; exact tz hw; exact rfl))
  refine S.cond rfl (fun hc2 => ?_) (fun hc2 => ?_)
  ·rw [a8W hgi hc2 hm]
   (repeat first | refine uA ?_ | (apply S.exit; exact rfl) | ((with_reducible refine And.intro ?_ ?_); focus first | omega | trivial | exact id | (intros; simp_all <;> omega)) | simp (disch := omega) only [go_sem, Nat.reduceBEq, Nat.reduceAdd, Nat.reduceLeDiff, Int.reduceToNat, Int.reducePow, ww])
   exact S.done (d9.out rfl (Imp.refl rfl) rfl)
  ·(repeat first | refine uA ?_ | (apply S.exit; exact rfl) | ((with_reducible refine And.intro ?_ ?_); focus first | omega | trivial | exact id | (intros; simp_all <;> omega)) | simp (disch := omega) only [go_sem, Nat.reduceBEq, Nat.reduceAdd, Nat.reduceLeDiff, Int.reduceToNat, Int.reducePow, ww])
   refine S.next (i + 1) ⟨by omega, fun j hj y hy => ?_⟩ (by omega) (by (repeat first | refine uA ?_ | (refine ⟨?_, ?_⟩; focus first | rfl | trivial | (simp [slot]; done)) | rfl | trivial | simp))
   rcases Nat.lt_or_ge j i with h1 | h1
   ·exact hm j h1 y hy
   ·have : j = i := by omega
    subst this
    rw [hgi] at hy
    cases hy
    exact hc2
 ·have hi' : i = l.length := by omega
  subst hi'
  rw [a6V hm]
  (repeat first | refine uA ?_ | (apply S.exit; exact rfl) | ((with_reducible refine And.intro ?_ ?_); focus first | omega | trivial | exact id | (intros; simp_all <;> omega)) | simp (disch := omega) only [go_sem, Nat.reduceBEq, Nat.reduceAdd, Nat.reduceLeDiff, Int.reduceToNat, Int.reducePow, ww])
  exact S.done (d9.out rfl (Imp.refl rfl) rfl)
theorem c0i (g : Nat) (hcal : callable Tryz.prog g = true) (p : Nm.Rt -> Bool) (l : List Nm.Rt) (hn : l.length <= 1099511627776) (hg : ∀ x ∈ l, FZ g [rc x] (.v (.bool (p x)))) :
  FZ 44 [rts l, .v (.func (.func g) #[] #[])] (.v (.bool (l.any p))) := by
 refine q8.of a0w a0A (by exact Nat.le_of_ble_eq_true rfl) fun w O hw => ?_
 have h := c0s g hcal p l hn hg
 have e := a9e p l
 generalize a3b p l = n at *
 simp only [P8, l9, TT, II, OA, OB, OC, MM, LL, VV, FF, MG, LG, VG, FG]
 simp only [rts, ints] at *
 (repeat first | refine uA ?_ | (apply S.exit; exact rfl) | ((with_reducible refine And.intro ?_ ?_); focus first | omega | trivial | exact id | (intros; simp_all <;> omega)) | simp (disch := omega) only [go_sem, Nat.reduceBEq, Nat.reduceAdd, Nat.reduceLeDiff, Int.reduceToNat, Int.reducePow, ww] | (refine uD h ?_ ?_ ?_; exact tz hw; exact rfl))
 rw [e]
 exact S.done (d9.out rfl (Imp.refl rfl) rfl)
theorem b7X (g : Nat) (hcal : callable Tryz.prog g = true) (p : Fr -> Bool) (l : List Fr) (hn : l.length <= 1099511627776) (hg : ∀ x ∈ l, FZ g [x.c] (.v (.bool (p x)))) :
  FZ 209 [frs l, .v (.func (.func g) #[] #[])] (ints (a3b p l)) := by
 refine q8.of a0s a0t (by exact Nat.le_of_ble_eq_true rfl) fun w O hw => ?_
 simp only [O8, l9, TT, II, OA, OB, OC, MM, LL, VV, FF, MG, LG, VG, FG, frs]
 (repeat first | refine uA ?_ | (apply S.exit; exact rfl) | ((with_reducible refine And.intro ?_ ?_); focus first | omega | trivial | exact id | (intros; simp_all <;> omega)) | simp (disch := omega) only [go_sem, Nat.reduceBEq, Nat.reduceAdd, Nat.reduceLeDiff, Int.reduceToNat, Int.reducePow, ww, List.length_map])
 refine S.loop (X := Nat) (fun i => ⟨[(0, frs l), (1, .v (.func (.func g) #[] #[])), (7, ints l.length), (8, ints i)], []⟩) (fun i => i <= l.length /\ ∀ j, j < i -> ∀ x, l[j]? = some x -> p x = false) (fun i => l.length - i) 0 ⟨Nat.zero_le _, fun _ h => absurd h (Nat.not_lt_zero _)⟩ (by (repeat first | refine uA ?_ | (refine ⟨?_, ?_⟩; focus first | rfl | trivial | (simp [slot]; done)) | rfl | trivial | simp)) ?_
 rintro i ⟨hi, hm⟩
 simp only [frs, ints]
 (repeat first | refine uA ?_ | (apply S.exit; exact rfl) | ((with_reducible refine And.intro ?_ ?_); focus first | omega | trivial | exact id | (intros; simp_all <;> omega)) | simp (disch := omega) only [go_sem, Nat.reduceBEq, Nat.reduceAdd, Nat.reduceLeDiff, Int.reduceToNat, Int.reducePow, ww])
 (refine uJ rfl (fun hc => ?_) fun hc => ?_)
 ·have hi' : i < l.length := by omega
  have hgi := List.getElem?_eq_getElem hi'
  generalize l[i] = x at hgi
  have hs := hg x (List.mem_of_getElem? hgi)
  simp only [Fr.c, Fr.enc, sb] at hs
  (repeat first | refine uA ?_ | (apply S.exit; exact rfl) | ((with_reducible refine And.intro ?_ ?_); focus first | omega | trivial | exact id | (intros; simp_all <;> omega)) | simp (disch := omega) only [go_sem, Nat.reduceBEq, Nat.reduceAdd, Nat.reduceLeDiff, Int.reduceToNat, Int.reducePow, ww, hgi, Option.map_some, List.length_map, Fr.c, Fr.enc, sb, Int.toNat_natCast, hcal] | (refine uD hs ?_ ?_ ?_; exact tz hw; exact rfl))
  refine S.cond rfl (fun hc2 => ?_) (fun hc2 => ?_)
  ·rw [a8W hgi hc2 hm]
   (repeat first | refine uA ?_ | (apply S.exit; exact rfl) | ((with_reducible refine And.intro ?_ ?_); focus first | omega | trivial | exact id | (intros; simp_all <;> omega)) | simp (disch := omega) only [go_sem, Nat.reduceBEq, Nat.reduceAdd, Nat.reduceLeDiff, Int.reduceToNat, Int.reducePow, ww])
   exact S.done (d9.out rfl (Imp.refl rfl) rfl)
  ·(repeat first | refine uA ?_ | (apply S.exit; exact rfl) | ((with_reducible refine And.intro ?_ ?_); focus first | omega | trivial | exact id | (intros; simp_all <;> omega)) | simp (disch := omega) only [go_sem, Nat.reduceBEq, Nat.reduceAdd, Nat.reduceLeDiff, Int.reduceToNat, Int.reducePow, ww])
   refine S.next (i + 1) ⟨by omega, fun j hj y hy => ?_⟩ (by omega) (by (repeat first | refine uA ?_ | (refine ⟨?_, ?_⟩; focus first | rfl | trivial | (simp [slot]; done)) | rfl | trivial | simp))
   rcases Nat.lt_or_ge j i with h1 | h1
   ·exact hm j h1 y hy
   ·have : j = i := by omega
    subst this
    rw [hgi] at hy
    cases hy
    exact hc2
 ·have hi' : i = l.length := by omega
  subst hi'
  rw [a6V hm]
  (repeat first | refine uA ?_ | (apply S.exit; exact rfl) | ((with_reducible refine And.intro ?_ ?_); focus first | omega | trivial | exact id | (intros; simp_all <;> omega)) | simp (disch := omega) only [go_sem, Nat.reduceBEq, Nat.reduceAdd, Nat.reduceLeDiff, Int.reduceToNat, Int.reducePow, ww])
  exact S.done (d9.out rfl (Imp.refl rfl) rfl)
theorem b7T (g : Nat) (hcal : callable Tryz.prog g = true) (p : Fr -> Bool) (l : List Fr) (hn : l.length <= 1099511627776) (hg : ∀ x ∈ l, FZ g [x.c] (.v (.bool (p x)))) :
  FZ 134 [frs l, .v (.func (.func g) #[] #[])] (.v (.bool (l.any p))) := by
 refine q8.of Z9 a0f (by exact Nat.le_of_ble_eq_true rfl) fun w O hw => ?_
 have h := b7X g hcal p l hn hg
 have e := a9e p l
 generalize a3b p l = n at *
 simp only [M9, l9, TT, II, OA, OB, OC, MM, LL, VV, FF, MG, LG, VG, FG]
 simp only [frs, ints] at *
 (repeat first | refine uA ?_ | (apply S.exit; exact rfl) | ((with_reducible refine And.intro ?_ ?_); focus first | omega | trivial | exact id | (intros; simp_all <;> omega)) | simp (disch := omega) only [go_sem, Nat.reduceBEq, Nat.reduceAdd, Nat.reduceLeDiff, Int.reduceToNat, Int.reducePow, ww] | (refine uD h ?_ ?_ ?_; exact tz hw; exact rfl))
 rw [e]
 exact S.done (d9.out rfl (Imp.refl rfl) rfl)
end Go.Proofs.YtogfpjohjphngaaGreatDoor
namespace Go.Proofs.YtogfpjohjphngaaGreatDoor
set_option linter.all false
open Go Go.RowKit Eng
set_option maxRecDepth 10000
set_option maxHeartbeats 8000000
theorem c0Q {α : Type} (p : α -> Bool) (a b c d e : α) : [a, b, c, d, e].all p = (p a && p b && p c && p d && p e) := by simp [Bool.and_assoc]
theorem b1K {α : Type} (p : α -> Bool) (a b c : α) : [a, b, c].all p = (p a && p b && p c) := by simp [Bool.and_assoc]
theorem b0V {α : Type} (p : α -> Bool) (a b : α) : [a, b].all p = (p a && p b) := by simp
theorem Rbs.five {k : Nat} {a b c d e : Nm.Rt} (h : 5 <= k) (h1 : Rb k a) (h2 : Rb k b) (h3 : Rb k c) (h4 : Rb k d) (h5 : Rb k e) : Rbs k [a, b, c, d, e] := ⟨h, fun x hx => by simp at hx; rcases hx with rfl | rfl | rfl | rfl | rfl <;> assumption⟩
theorem Rbs.three {k : Nat} {a b c : Nm.Rt} (h : 3 <= k) (h1 : Rb k a) (h2 : Rb k b) (h3 : Rb k c) : Rbs k [a, b, c] := ⟨h, fun x hx => by simp at hx; rcases hx with rfl | rfl | rfl <;> assumption⟩
theorem Rbs.two {k : Nat} {a b : Nm.Rt} (h : 2 <= k) (h1 : Rb k a) (h2 : Rb k b) : Rbs k [a, b] := ⟨h, fun x hx => by simp at hx; rcases hx with rfl | rfl <;> assumption⟩
theorem c2a (l : Lk) (hl : Lb 1073741824 l) : FZ 200 [l.c] (ints (X9 l)) := by
  refine q8.of b3j b3M (by exact Nat.le_of_ble_eq_true rfl) fun w O hw => ?_
  obtain ⟨length, low, high, speed, brake, shape⟩ := l
  obtain ⟨b1, b2, b3, b4, b5, b6⟩ := hl
  simp only at b1 b2 b3 b4 b5 b6
  have c1 := b1.mono (m := 17179869184) (by decide)
  have c2 := b2.mono (m := 17179869184) (by decide)
  have c3 := b3.mono (m := 17179869184) (by decide)
  have c4 := b4.mono (m := 17179869184) (by decide)
  have c5 := b5.mono (m := 17179869184) (by decide)
  have hsm := a9j _ (Rbs.five (by decide) c1 c2 c3 c4 c5)
  rw [c0Q] at hsm
  have hs1 := a0u length c1
  have hcm := a1n low high c2 c3
  have hs2 := a0u speed c4
  have hs3 := a0u brake c5
  have hp := a8l shape b6
  have hv := fun (v : Vt) (h : v ∈ shape) => a9j _ (Rbs.two (by decide) ((b6.2 v h).1.mono (m := 17179869184) (by decide)) ((b6.2 v h).2.mono (m := 17179869184) (by decide)))
  have hn := b6.1
  unfold X9
  simp only
  generalize (p8 length && p8 low && p8 high && p8 speed && p8 brake) = q at *
  generalize J2 (Nm.j3 length) = n1 at *
  generalize Nm.G5 (Nm.j3 low) (Nm.j3 high) = n2 at *
  generalize J2 (Nm.j3 speed) = n3 at *
  generalize J2 (Nm.j3 brake) = n4 at *
  generalize P7 shape 8 = n5 at *
  simp only [a7v, l9, TT, II, OA, OB, OC, MM, LL, VV, FF, MG, LG, VG, FG]
  simp only [Lk.c, Lk.enc, rc, rts, rcs, vts, sb, ints, List.map_cons, List.map_nil] at *
  (repeat first | refine uG hs1 ?_ | refine uG hcm ?_ | refine uG hsm ?_ | refine uA ?_ | (apply S.exit; exact rfl) | ((with_reducible refine And.intro ?_ ?_); focus first | omega | trivial | exact id | (intros; simp_all <;> omega)) | simp (disch := omega) only [go_sem, Nat.reduceBEq, Nat.reduceAdd, Nat.reduceLeDiff, Int.reduceToNat, Int.reducePow, ww] | (refine uD hs1 ?_ ?_ ?_; exact tz hw; exact rfl) | (refine uD hcm ?_ ?_ ?_; exact tz hw; exact rfl) | (refine uE hsm ?_ ?_ ?_ ?_; exact tz hw; exact rfl; focus (repeat' first | exact q9.nil | exact Imp.refl rfl | exact Imp.frz rfl rfl rfl | (refine Imp.R6 rfl rfl ?_ ?_; (focus ((try simp only [List.length_append]); omega)); (focus first | rfl | assumption)) | refine q9.cons ?_ ?_); done))
  refine S.cond rfl (fun hc => ?_) (fun hc => ?_)
  · rw [if_pos (by simp only [Bool.or_eq_true, Bool.not_eq_true', decide_eq_true_eq] at hc; rcases hc with (hc | hc) | hc <;> simp [hc])]
    (repeat first | refine uA ?_ | (apply S.exit; exact rfl) | ((with_reducible refine And.intro ?_ ?_); focus first | omega | trivial | exact id | (intros; simp_all <;> omega)) | simp (disch := omega) only [go_sem, Nat.reduceBEq, Nat.reduceAdd, Nat.reduceLeDiff, Int.reduceToNat, Int.reducePow, ww])
    exact S.done (d9.out rfl (Imp.refl rfl) rfl)
  rw [if_neg (by simp only [Bool.or_eq_false_iff, Bool.not_eq_false', decide_eq_false_iff_not] at hc; simp [hc])]
  (repeat first | refine uG hs2 ?_ | refine uG hs3 ?_ | refine uA ?_ | (apply S.exit; exact rfl) | ((with_reducible refine And.intro ?_ ?_); focus first | omega | trivial | exact id | (intros; simp_all <;> omega)) | simp (disch := omega) only [go_sem, Nat.reduceBEq, Nat.reduceAdd, Nat.reduceLeDiff, Int.reduceToNat, Int.reducePow, ww] | (refine uD hs2 ?_ ?_ ?_; exact tz hw; exact rfl) | (refine uD hs3 ?_ ?_ ?_; exact tz hw; exact rfl))
  refine S.cond rfl (fun hc => ?_) (fun hc => ?_)
  · rw [if_pos (by simp only [Bool.or_eq_true, decide_eq_true_eq] at hc; exact hc)]
    (repeat first | refine uA ?_ | (apply S.exit; exact rfl) | ((with_reducible refine And.intro ?_ ?_); focus first | omega | trivial | exact id | (intros; simp_all <;> omega)) | simp (disch := omega) only [go_sem, Nat.reduceBEq, Nat.reduceAdd, Nat.reduceLeDiff, Int.reduceToNat, Int.reducePow, ww])
    exact S.done (d9.out rfl (Imp.refl rfl) rfl)
  rw [if_neg (by simp only [Bool.or_eq_false_iff, decide_eq_false_iff_not] at hc; simp [hc])]
  (repeat first | refine uG hp ?_ | refine uA ?_ | (apply S.exit; exact rfl) | ((with_reducible refine And.intro ?_ ?_); focus first | omega | trivial | exact id | (intros; simp_all <;> omega)) | simp (disch := omega) only [go_sem, Nat.reduceBEq, Nat.reduceAdd, Nat.reduceLeDiff, Int.reduceToNat, Int.reducePow, ww] | (refine uD hp ?_ ?_ ?_; exact tz hw; exact rfl))
  refine S.cond rfl (fun hc => ?_) (fun hc => ?_)
  · rw [if_pos (by simpa using hc)]
    (repeat first | refine uA ?_ | (apply S.exit; exact rfl) | ((with_reducible refine And.intro ?_ ?_); focus first | omega | trivial | exact id | (intros; simp_all <;> omega)) | simp (disch := omega) only [go_sem, Nat.reduceBEq, Nat.reduceAdd, Nat.reduceLeDiff, Int.reduceToNat, Int.reducePow, ww])
    exact S.done (d9.out rfl (Imp.refl rfl) rfl)
  rw [if_neg (by simpa using hc)]
  (repeat first | refine uA ?_ | (apply S.exit; exact rfl) | ((with_reducible refine And.intro ?_ ?_); focus first | omega | trivial | exact id | (intros; simp_all <;> omega)) | simp (disch := omega) only [go_sem, Nat.reduceBEq, Nat.reduceAdd, Nat.reduceLeDiff, Int.reduceToNat, Int.reducePow, ww, List.length_map])
  refine S.loop (X := Nat) (fun i => ⟨[(50, vts shape), (51, ints shape.length), (52, ints i)], []⟩) (fun i => i <= shape.length /\ (shape.all fun v => p8 v.x && p8 v.y) = (shape.drop i).all fun v => p8 v.x && p8 v.y) (fun i => shape.length - i) 0 ⟨Nat.zero_le _, rfl⟩ (by (repeat first | refine uA ?_ | (refine ⟨?_, ?_⟩; focus first | rfl | trivial | (simp [slot]; done)) | rfl | trivial | simp)) ?_
  rintro i ⟨hi, hg⟩
  simp only [vts, ints]
  (repeat first | refine uA ?_ | (apply S.exit; exact rfl) | ((with_reducible refine And.intro ?_ ?_); focus first | omega | trivial | exact id | (intros; simp_all <;> omega)) | simp (disch := omega) only [go_sem, Nat.reduceBEq, Nat.reduceAdd, Nat.reduceLeDiff, Int.reduceToNat, Int.reducePow, ww])
  (refine uJ rfl (fun hc => ?_) fun hc => ?_)
  · have hi' : i < shape.length := by omega
    have hgi := List.getElem?_eq_getElem hi'
    generalize shape[i] = x at hgi
    have hd := drop_at hgi
    have hs := hv x (List.mem_of_getElem? hgi)
    rw [b0V] at hs
    (repeat first | refine uG hs ?_ | refine uA ?_ | (apply S.exit; exact rfl) | ((with_reducible refine And.intro ?_ ?_); focus first | omega | trivial | exact id | (intros; simp_all <;> omega)) | simp (disch := omega) only [go_sem, Nat.reduceBEq, Nat.reduceAdd, Nat.reduceLeDiff, Int.reduceToNat, Int.reducePow, ww, hgi, Option.map_some, List.length_map, Vt.enc, sb] | (refine uE hs ?_ ?_ ?_ ?_; exact tz hw; exact rfl; focus (repeat' first | exact q9.nil | exact Imp.refl rfl | exact Imp.frz rfl rfl rfl | (refine Imp.R6 rfl rfl ?_ ?_; (focus ((try simp only [List.length_append, hgi, Option.map_some, List.length_map, Vt.enc, sb]); omega)); (focus first | rfl | assumption)) | refine q9.cons ?_ ?_); done))
    refine S.cond rfl (fun hc2 => ?_) (fun hc2 => ?_)
    · have : (shape.all fun v => p8 v.x && p8 v.y) = false := by
        rw [hg, hd, List.all_cons]
        simp only [Bool.not_eq_true'] at hc2
        rw [hc2]; rfl
      rw [this]
      (repeat first | refine uA ?_ | (apply S.exit; exact rfl) | ((with_reducible refine And.intro ?_ ?_); focus first | omega | trivial | exact id | (intros; simp_all <;> omega)) | simp (disch := omega) only [go_sem, Nat.reduceBEq, Nat.reduceAdd, Nat.reduceLeDiff, Int.reduceToNat, Int.reducePow, ww])
      exact S.done (d9.out rfl (Imp.refl rfl) rfl)
    · (repeat first | refine uA ?_ | (apply S.exit; exact rfl) | ((with_reducible refine And.intro ?_ ?_); focus first | omega | trivial | exact id | (intros; simp_all <;> omega)) | simp (disch := omega) only [go_sem, Nat.reduceBEq, Nat.reduceAdd, Nat.reduceLeDiff, Int.reduceToNat, Int.reducePow, ww])
      refine S.next (i + 1) ⟨by omega, ?_⟩ (by omega) (by (repeat first | refine uA ?_ | (refine ⟨?_, ?_⟩; focus first | rfl | trivial | (simp [slot]; done)) | rfl | trivial | simp))
      rw [hg, hd, List.all_cons]
      simp only [Bool.not_eq_false'] at hc2
      rw [hc2]; rfl
  · have : (shape.all fun v => p8 v.x && p8 v.y) = true := by rw [hg, List.drop_eq_nil_of_le (by omega)]; rfl
    rw [this]
    (repeat first | refine uA ?_ | (apply S.exit; exact rfl) | ((with_reducible refine And.intro ?_ ?_); focus first | omega | trivial | exact id | (intros; simp_all <;> omega)) | simp (disch := omega) only [go_sem, Nat.reduceBEq, Nat.reduceAdd, Nat.reduceLeDiff, Int.reduceToNat, Int.reducePow, ww])
    exact S.done (d9.out rfl (Imp.refl rfl) rfl)
theorem b8y (a : Am) (hl : Ab 1073741824 a) : FZ 87 [a.c] (ints (V3 a)) := by
 refine q8.of b2Y b4E (by exact Nat.le_of_ble_eq_true rfl) fun w O hw => ?_
 obtain ⟨name, ⟨x, y, half, t⟩, links⟩ := a
 obtain ⟨b0, ⟨b1, b2, b3⟩, hn, hb⟩ := hl
 simp only at b0 b1 b2 b3 hn hb
 have c1 := b1.mono (m := 17179869184) (by decide)
 have c2 := b2.mono (m := 17179869184) (by decide)
 have c3 := b3.mono (m := 17179869184) (by decide)
 have hnm := c0E name (by omega)
 have hsm := a9j _ (Rbs.three (by decide) c1 c2 c3)
 rw [b1K] at hsm
 have hs := a0u t c3
 unfold V3 a4k
 simp only
 generalize a0S name = q0 at *
 generalize (p8 x && p8 y && p8 t) = q at *
 generalize J2 (Nm.j3 t) = n1 at *
 simp only [a6L, l9, TT, II, OA, OB, OC, MM, LL, VV, FF, MG, LG, VG, FG]
 simp only [Am.c, Am.enc, rc, rts, rcs, lks, sb, ints, List.map_cons, List.map_nil] at *
 (repeat first | refine uF hnm ?_ | refine uA ?_ | (apply S.exit; exact rfl) | ((with_reducible refine And.intro ?_ ?_); focus first | omega | trivial | exact id | (intros; simp_all <;> omega)) | simp (disch := omega) only [go_sem, Nat.reduceBEq, Nat.reduceAdd, Nat.reduceLeDiff, Int.reduceToNat, Int.reducePow, ww] | (refine uB hnm ?_ ?_; exact rfl))
 refine S.cond rfl (fun hc => ?_) (fun hc => ?_)
 ·rw [if_pos (by simpa using hc)]
  (repeat first | refine uA ?_ | (apply S.exit; exact rfl) | ((with_reducible refine And.intro ?_ ?_); focus first | omega | trivial | exact id | (intros; simp_all <;> omega)) | simp (disch := omega) only [go_sem, Nat.reduceBEq, Nat.reduceAdd, Nat.reduceLeDiff, Int.reduceToNat, Int.reducePow, ww])
  exact S.done (d9.out rfl (Imp.refl rfl) rfl)
 rw [if_neg (by simpa using hc)]
 (repeat first | refine uA ?_ | (apply S.exit; exact rfl) | ((with_reducible refine And.intro ?_ ?_); focus first | omega | trivial | exact id | (intros; simp_all <;> omega)) | simp (disch := omega) only [go_sem, Nat.reduceBEq, Nat.reduceAdd, Nat.reduceLeDiff, Int.reduceToNat, Int.reducePow, ww, List.length_map])
 refine S.cond rfl (fun hc => ?_) (fun hc => ?_)
 ·rw [if_pos (by simp only [decide_eq_true_eq] at hc; omega)]
  (repeat first | refine uA ?_ | (apply S.exit; exact rfl) | ((with_reducible refine And.intro ?_ ?_); focus first | omega | trivial | exact id | (intros; simp_all <;> omega)) | simp (disch := omega) only [go_sem, Nat.reduceBEq, Nat.reduceAdd, Nat.reduceLeDiff, Int.reduceToNat, Int.reducePow, ww])
  exact S.done (d9.out rfl (Imp.refl rfl) rfl)
 rw [if_neg (by simp only [decide_eq_false_iff_not] at hc; omega)]
 by_cases h0 : links.length = 0
 ·rw [if_pos (.inl h0)]
  have e0 : decide ((links.length : Int) = 0) = true := decide_eq_true (by omega)
  (repeat first | refine uG hs ?_ | refine uG hsm ?_ | refine uA ?_ | (apply S.exit; exact rfl) | ((with_reducible refine And.intro ?_ ?_); focus first | omega | trivial | exact id | (intros; simp_all <;> omega)) | simp (disch := omega) only [go_sem, Nat.reduceBEq, Nat.reduceAdd, Nat.reduceLeDiff, Int.reduceToNat, Int.reducePow, ww, List.length_map, e0] | (refine uD hs ?_ ?_ ?_; exact tz hw; exact rfl) | (refine uE hsm ?_ ?_ ?_ ?_; exact tz hw; exact rfl; focus (repeat' first | exact q9.nil | exact Imp.refl rfl | exact Imp.frz rfl rfl rfl | (refine Imp.R6 rfl rfl ?_ ?_; (focus ((try simp only [List.length_append, List.length_map, e0]); omega)); (focus first | rfl | assumption)) | refine q9.cons ?_ ?_); done))
  refine S.cond rfl (fun _ => ?_) (fun hc => by simp at hc)
  (repeat first | refine uA ?_ | (apply S.exit; exact rfl) | ((with_reducible refine And.intro ?_ ?_); focus first | omega | trivial | exact id | (intros; simp_all <;> omega)) | simp (disch := omega) only [go_sem, Nat.reduceBEq, Nat.reduceAdd, Nat.reduceLeDiff, Int.reduceToNat, Int.reducePow, ww])
  exact S.done (d9.out rfl (Imp.refl rfl) rfl)
 have e0 : decide ((links.length : Int) = 0) = false := decide_eq_false (by omega)
 (repeat first | refine uG hs ?_ | refine uG hsm ?_ | refine uA ?_ | (apply S.exit; exact rfl) | ((with_reducible refine And.intro ?_ ?_); focus first | omega | trivial | exact id | (intros; simp_all <;> omega)) | simp (disch := omega) only [go_sem, Nat.reduceBEq, Nat.reduceAdd, Nat.reduceLeDiff, Int.reduceToNat, Int.reducePow, ww, List.length_map, e0] | (refine uD hs ?_ ?_ ?_; exact tz hw; exact rfl) | (refine uE hsm ?_ ?_ ?_ ?_; exact tz hw; exact rfl; focus (repeat' first | exact q9.nil | exact Imp.refl rfl | exact Imp.frz rfl rfl rfl | (refine Imp.R6 rfl rfl ?_ ?_; (focus ((try simp only [List.length_append, List.length_map, e0]); omega)); (focus first | rfl | assumption)) | refine q9.cons ?_ ?_); done))
 refine S.cond rfl (fun hc => ?_) (fun hc => ?_)
 ·rw [if_pos (by simp only [Bool.or_eq_true, Bool.not_eq_true', decide_eq_true_eq] at hc; rcases hc with hc | hc; (· exact .inr (.inl hc)); (· exact .inr (.inr (by cases half <;> simp_all))))]
  (repeat first | refine uA ?_ | (apply S.exit; exact rfl) | ((with_reducible refine And.intro ?_ ?_); focus first | omega | trivial | exact id | (intros; simp_all <;> omega)) | simp (disch := omega) only [go_sem, Nat.reduceBEq, Nat.reduceAdd, Nat.reduceLeDiff, Int.reduceToNat, Int.reducePow, ww])
  exact S.done (d9.out rfl (Imp.refl rfl) rfl)
 rw [if_neg (by simp only [Bool.or_eq_false_iff, Bool.not_eq_false', decide_eq_false_iff_not] at hc; rintro (h | h | h); (· omega); (· simp_all); (· cases half <;> simp_all))]
 (repeat first | refine uA ?_ | (apply S.exit; exact rfl) | ((with_reducible refine And.intro ?_ ?_); focus first | omega | trivial | exact id | (intros; simp_all <;> omega)) | simp (disch := omega) only [go_sem, Nat.reduceBEq, Nat.reduceAdd, Nat.reduceLeDiff, Int.reduceToNat, Int.reducePow, ww, List.length_map])
 refine S.loop (X := Nat) (fun i => ⟨[(48, lks links), (49, ints links.length), (50, ints i)], []⟩) (fun i => i <= links.length /\ G6 X9 links = G6 X9 (links.drop i)) (fun i => links.length - i) 0 ⟨Nat.zero_le _, rfl⟩ (by (repeat first | refine uA ?_ | (refine ⟨?_, ?_⟩; focus first | rfl | trivial | (simp [slot]; done)) | rfl | trivial | simp)) ?_
 rintro i ⟨hi, hg⟩
 simp only [lks, ints]
 (repeat first | refine uA ?_ | (apply S.exit; exact rfl) | ((with_reducible refine And.intro ?_ ?_); focus first | omega | trivial | exact id | (intros; simp_all <;> omega)) | simp (disch := omega) only [go_sem, Nat.reduceBEq, Nat.reduceAdd, Nat.reduceLeDiff, Int.reduceToNat, Int.reducePow, ww])
 (refine uJ rfl (fun hc => ?_) fun hc => ?_)
 ·have hi' : i < links.length := by omega
  have hgi := List.getElem?_eq_getElem hi'
  generalize links[i] = x at hgi
  have hst := a1p (f := X9) hgi
  have hnx := a1l (f := X9) hgi
  have hs := c2a x (hb x (List.mem_of_getElem? hgi))
  generalize X9 x = e at *
  simp only [Lk.c, Lk.enc, vts, sb, ints] at hs
  (repeat first | refine uG hs ?_ | refine uA ?_ | (apply S.exit; exact rfl) | ((with_reducible refine And.intro ?_ ?_); focus first | omega | trivial | exact id | (intros; simp_all <;> omega)) | simp (disch := omega) only [go_sem, Nat.reduceBEq, Nat.reduceAdd, Nat.reduceLeDiff, Int.reduceToNat, Int.reducePow, ww, hgi, Option.map_some, List.length_map, Lk.enc, vts, sb] | (refine uD hs ?_ ?_ ?_; exact tz hw; exact rfl))
  refine S.cond rfl (fun hc2 => ?_) (fun hc2 => ?_)
  ·rw [hg, hst (by simpa using hc2)]
   (repeat first | refine uA ?_ | (apply S.exit; exact rfl) | ((with_reducible refine And.intro ?_ ?_); focus first | omega | trivial | exact id | (intros; simp_all <;> omega)) | simp (disch := omega) only [go_sem, Nat.reduceBEq, Nat.reduceAdd, Nat.reduceLeDiff, Int.reduceToNat, Int.reducePow, ww])
   exact S.done (d9.out rfl (Imp.refl rfl) rfl)
  ·(repeat first | refine uA ?_ | (apply S.exit; exact rfl) | ((with_reducible refine And.intro ?_ ?_); focus first | omega | trivial | exact id | (intros; simp_all <;> omega)) | simp (disch := omega) only [go_sem, Nat.reduceBEq, Nat.reduceAdd, Nat.reduceLeDiff, Int.reduceToNat, Int.reducePow, ww])
   refine S.next (i + 1) ⟨by omega, ?_⟩ (by omega) (by (repeat first | refine uA ?_ | (refine ⟨?_, ?_⟩; focus first | rfl | trivial | (simp [slot]; done)) | rfl | trivial | simp))
   rw [hg, hnx (by simpa using hc2)]
 ·rw [hg, a1V (by omega)]
  (repeat first | refine uA ?_ | (apply S.exit; exact rfl) | ((with_reducible refine And.intro ?_ ?_); focus first | omega | trivial | exact id | (intros; simp_all <;> omega)) | simp (disch := omega) only [go_sem, Nat.reduceBEq, Nat.reduceAdd, Nat.reduceLeDiff, Int.reduceToNat, Int.reducePow, ww])
  exact S.done (d9.out rfl (Imp.refl rfl) rfl)
end Go.Proofs.YtogfpjohjphngaaGreatDoor
namespace Go.Proofs.YtogfpjohjphngaaGreatDoor
set_option linter.all false
open Go Go.RowKit Eng
set_option maxRecDepth 10000
set_option maxHeartbeats 8000000
def a4z (a : Am) (n : Int) : Int := if V3 a ≠ 0 then V3 a else if n ≠ a.links.length then 1 else 0
theorem c3b (a : Am) (n : Int) (hl : Ab 1073741824 a) : FZ 212 [a.c, ints n] (ints (a4z a n)) := by
 refine q8.of b7x b7R (by exact Nat.le_of_ble_eq_true rfl) fun w O hw => ?_
 have h := b8y a hl
 unfold a4z
 generalize V3 a = e at *
 obtain ⟨name, ⟨x, y, half, t⟩, links⟩ := a
 simp only [b0q, l9, TT, II, OA, OB, OC, MM, LL, VV, FF, MG, LG, VG, FG]
 simp only [Am.c, Am.enc, lks, sb, ints] at *
 (repeat first | refine uA ?_ | (apply S.exit; exact rfl) | ((with_reducible refine And.intro ?_ ?_); focus first | omega | trivial | exact id | (intros; simp_all <;> omega)) | simp (disch := omega) only [go_sem, Nat.reduceBEq, Nat.reduceAdd, Nat.reduceLeDiff, Int.reduceToNat, Int.reducePow, ww] | (refine uD h ?_ ?_ ?_; exact tz hw; exact rfl))
 refine S.cond rfl (fun hc => ?_) (fun hc => ?_)
 ·rw [if_pos (by simpa using hc)]
  (repeat first | refine uA ?_ | (apply S.exit; exact rfl) | ((with_reducible refine And.intro ?_ ?_); focus first | omega | trivial | exact id | (intros; simp_all <;> omega)) | simp (disch := omega) only [go_sem, Nat.reduceBEq, Nat.reduceAdd, Nat.reduceLeDiff, Int.reduceToNat, Int.reducePow, ww])
  exact S.done (d9.out rfl (Imp.refl rfl) rfl)
 rw [if_neg (by simpa using hc)]
 (repeat first | refine uA ?_ | (apply S.exit; exact rfl) | ((with_reducible refine And.intro ?_ ?_); focus first | omega | trivial | exact id | (intros; simp_all <;> omega)) | simp (disch := omega) only [go_sem, Nat.reduceBEq, Nat.reduceAdd, Nat.reduceLeDiff, Int.reduceToNat, Int.reducePow, ww, List.length_map])
 refine S.cond rfl (fun hc => ?_) (fun hc => ?_)
 ·rw [if_pos (by simpa using hc)]
  (repeat first | refine uA ?_ | (apply S.exit; exact rfl) | ((with_reducible refine And.intro ?_ ?_); focus first | omega | trivial | exact id | (intros; simp_all <;> omega)) | simp (disch := omega) only [go_sem, Nat.reduceBEq, Nat.reduceAdd, Nat.reduceLeDiff, Int.reduceToNat, Int.reducePow, ww])
  exact S.done (d9.out rfl (Imp.refl rfl) rfl)
 ·rw [if_neg (by simpa using hc)]
  (repeat first | refine uA ?_ | (apply S.exit; exact rfl) | ((with_reducible refine And.intro ?_ ?_); focus first | omega | trivial | exact id | (intros; simp_all <;> omega)) | simp (disch := omega) only [go_sem, Nat.reduceBEq, Nat.reduceAdd, Nat.reduceLeDiff, Int.reduceToNat, Int.reducePow, ww])
  exact S.done (d9.out rfl (Imp.refl rfl) rfl)
def a4S (x : Lk × Nm.Rt) : Int := if Nm.G5 (Nm.j3 x.2) (Nm.j3 x.1.low) < 0 \/ 0 < Nm.G5 (Nm.j3 x.2) (Nm.j3 x.1.high) then 17 else 0
theorem b3w (a : Am) (q : List Nm.Rt) : a3o a q = if a4z a q.length ≠ 0 then a4z a q.length else G6 a4S (a.links.zip q) := by
 unfold a3o a4z
 by_cases h : V3 a = 0
 ·rw [if_neg (by simp [h])]
  by_cases h2 : q.length = a.links.length
  ·simp [h, h2]; rfl
  ·have h3 : ¬ (q.length : Int) = a.links.length := by omega
   simp [h, h2, h3]
 ·simp [h]
theorem b0U {α β : Type} {l : List α} {m : List β} {i : Nat} {x : α} {y : β} (h : l[i]? = some x) (k : m[i]? = some y) : (l.zip m)[i]? = some (x, y) := by
 rw [List.getElem?_zip_eq_some]; exact ⟨h, k⟩
theorem c2r (a : Am) (q : List Nm.Rt) (hl : Ab 1073741824 a) (hq : Rbs 1073741824 q) : FZ 141 [a.c, rts q] (ints (a3o a q)) := by
 refine q8.of b5k b5h (by exact Nat.le_of_ble_eq_true rfl) fun w O hw => ?_
 have h := c3b a q.length hl
 rw [b3w]
 have hlen : a4z a q.length = 0 -> q.length = a.links.length := by
  unfold a4z
  intro h
  split at h
  ·rename_i h1; exact absurd h h1
  ·split at h
   ·cases h
   ·rename_i h1; have := Classical.not_not.1 h1; omega
 generalize a4z a q.length = e at *
 obtain ⟨hqn, hqb⟩ := hq
 obtain ⟨name, ⟨x, y, half, t⟩, links⟩ := a
 obtain ⟨b0, ⟨b1, b2, b3⟩, hn, hb⟩ := hl
 simp only at b0 b1 b2 b3 hn hb hlen
 simp only [a8z, l9, TT, II, OA, OB, OC, MM, LL, VV, FF, MG, LG, VG, FG]
 simp only [Am.c, Am.enc, lks, sb, ints, rts] at *
 (repeat first | refine uA ?_ | (apply S.exit; exact rfl) | ((with_reducible refine And.intro ?_ ?_); focus first | omega | trivial | exact id | (intros; simp_all <;> omega)) | simp (disch := omega) only [go_sem, Nat.reduceBEq, Nat.reduceAdd, Nat.reduceLeDiff, Int.reduceToNat, Int.reducePow, ww, List.length_map] | (refine uD h ?_ ?_ ?_; exact tz hw; exact rfl))
 refine S.cond rfl (fun hc => ?_) (fun hc => ?_)
 ·rw [if_pos (by simpa using hc)]
  (repeat first | refine uA ?_ | (apply S.exit; exact rfl) | ((with_reducible refine And.intro ?_ ?_); focus first | omega | trivial | exact id | (intros; simp_all <;> omega)) | simp (disch := omega) only [go_sem, Nat.reduceBEq, Nat.reduceAdd, Nat.reduceLeDiff, Int.reduceToNat, Int.reducePow, ww])
  exact S.done (d9.out rfl (Imp.refl rfl) rfl)
 rw [if_neg (by simpa using hc)]
 have hlen := hlen (by simpa using hc)
 (repeat first | refine uA ?_ | (apply S.exit; exact rfl) | ((with_reducible refine And.intro ?_ ?_); focus first | omega | trivial | exact id | (intros; simp_all <;> omega)) | simp (disch := omega) only [go_sem, Nat.reduceBEq, Nat.reduceAdd, Nat.reduceLeDiff, Int.reduceToNat, Int.reducePow, ww, List.length_map])
 refine S.loop (X := Nat) (fun i => ⟨[(1, rts q), (16, lks links), (17, ints links.length), (18, ints i)], []⟩) (fun i => i <= links.length /\ G6 a4S (links.zip q) = G6 a4S ((links.zip q).drop i)) (fun i => links.length - i) 0 ⟨Nat.zero_le _, rfl⟩ (by (repeat first | refine uA ?_ | (refine ⟨?_, ?_⟩; focus first | rfl | trivial | (simp [slot]; done)) | rfl | trivial | simp)) ?_
 rintro i ⟨hi, hg⟩
 simp only [rts, lks, ints]
 (repeat first | refine uA ?_ | (apply S.exit; exact rfl) | ((with_reducible refine And.intro ?_ ?_); focus first | omega | trivial | exact id | (intros; simp_all <;> omega)) | simp (disch := omega) only [go_sem, Nat.reduceBEq, Nat.reduceAdd, Nat.reduceLeDiff, Int.reduceToNat, Int.reducePow, ww])
 (refine uJ rfl (fun hc => ?_) fun hc => ?_)
 ·have hi' : i < links.length := by omega
  have hgi := List.getElem?_eq_getElem hi'
  have hgq := List.getElem?_eq_getElem (show i < q.length by omega)
  generalize links[i] = x at hgi
  generalize q[i]'_ = v at hgq
  have hz := b0U hgi hgq
  have hst := a1p (f := a4S) hz
  have hnx := a1l (f := a4S) hz
  have bx := hb x (List.mem_of_getElem? hgi)
  have bv := (hqb v (List.mem_of_getElem? hgq)).mono (m := 17179869184) (by decide)
  have h1 := a1n v x.low bv (bx.2.1.mono (by decide))
  have h2 := a1n v x.high bv (bx.2.2.1.mono (by decide))
  unfold a4S at hst hnx
  simp only at hst hnx
  generalize Nm.G5 (Nm.j3 v) (Nm.j3 x.low) = n1 at *
  generalize Nm.G5 (Nm.j3 v) (Nm.j3 x.high) = n2 at *
  have hqi : (i : Int) < q.length := by omega
  simp only [rc, sb, ints] at h1 h2
  (repeat first | refine uA ?_ | (apply S.exit; exact rfl) | ((with_reducible refine And.intro ?_ ?_); focus first | omega | trivial | exact id | (intros; simp_all <;> omega)) | simp (disch := omega) only [go_sem, Nat.reduceBEq, Nat.reduceAdd, Nat.reduceLeDiff, Int.reduceToNat, Int.reducePow, ww, hgi, hgq, Option.map_some, List.length_map, Lk.enc, rcs, vts, sb, Int.toNat_natCast] | (refine uD h1 ?_ ?_ ?_; exact tz hw; exact rfl) | (refine uD h2 ?_ ?_ ?_; exact tz hw; exact rfl))
  refine S.cond rfl (fun hc2 => ?_) (fun hc2 => ?_)
  ·have hp : n1 < 0 \/ 0 < n2 := by simpa using hc2
   rw [if_pos hp] at hst
   rw [hg, show a4S = fun x : Lk × Nm.Rt => if Nm.G5 (Nm.j3 x.2) (Nm.j3 x.1.low) < 0 \/ 0 < Nm.G5 (Nm.j3 x.2) (Nm.j3 x.1.high) then 17 else 0 from rfl, hst (by decide)]
   (repeat first | refine uA ?_ | (apply S.exit; exact rfl) | ((with_reducible refine And.intro ?_ ?_); focus first | omega | trivial | exact id | (intros; simp_all <;> omega)) | simp (disch := omega) only [go_sem, Nat.reduceBEq, Nat.reduceAdd, Nat.reduceLeDiff, Int.reduceToNat, Int.reducePow, ww])
   exact S.done (d9.out rfl (Imp.refl rfl) rfl)
  ·have hp : ¬ (n1 < 0 \/ 0 < n2) := by simpa using hc2
   rw [if_neg hp] at hnx
   (repeat first | refine uA ?_ | (apply S.exit; exact rfl) | ((with_reducible refine And.intro ?_ ?_); focus first | omega | trivial | exact id | (intros; simp_all <;> omega)) | simp (disch := omega) only [go_sem, Nat.reduceBEq, Nat.reduceAdd, Nat.reduceLeDiff, Int.reduceToNat, Int.reducePow, ww])
   refine S.next (i + 1) ⟨by omega, ?_⟩ (by omega) (by (repeat first | refine uA ?_ | (refine ⟨?_, ?_⟩; focus first | rfl | trivial | (simp [slot]; done)) | rfl | trivial | simp))
   rw [hg, show a4S = fun x : Lk × Nm.Rt => if Nm.G5 (Nm.j3 x.2) (Nm.j3 x.1.low) < 0 \/ 0 < Nm.G5 (Nm.j3 x.2) (Nm.j3 x.1.high) then 17 else 0 from rfl, hnx rfl]
 ·rw [hg, a1V (by rw [List.length_zip]; omega)]
  (repeat first | refine uA ?_ | (apply S.exit; exact rfl) | ((with_reducible refine And.intro ?_ ?_); focus first | omega | trivial | exact id | (intros; simp_all <;> omega)) | simp (disch := omega) only [go_sem, Nat.reduceBEq, Nat.reduceAdd, Nat.reduceLeDiff, Int.reduceToNat, Int.reducePow, ww])
  exact S.done (d9.out rfl (Imp.refl rfl) rfl)
end Go.Proofs.YtogfpjohjphngaaGreatDoor
namespace Go.Proofs.YtogfpjohjphngaaGreatDoor
set_option linter.all false
open Go Go.RowKit Eng
set_option maxRecDepth 100000
set_option maxHeartbeats 4000000
theorem a2n {a : Nm.Rt} (h : p8 a = true) : Rb 3 a := by
 unfold p8 at h
 simp only [Bool.and_eq_true, decide_eq_true_eq] at h
 exact ⟨h.1.1.1.1, by have := h.1.1.1.2; omega⟩
theorem H6 {a : Nm.Rt} (h : p8 a = true) : Rb 1048576 a := (a2n h).mono (by decide)
theorem b2l {α : Type} {f : α -> Int} : ∀ {l : List α}, G6 f l = 0 -> ∀ x ∈ l, f x = 0
 | [], _, x, hx => by cases hx
 | y :: l, h, x, hx => by
  rw [G6] at h
  split at h
  ·rename_i h0
   rcases List.mem_cons.1 hx with rfl | hx
   ·exact h0
   ·exact b2l h x hx
  ·rename_i h0; exact absurd h h0
theorem b1y {l : List Vt} (h : P7 l 8 = 0) : l.length <= 8 := by
 unfold P7 at h
 split at h
 ·cases h
 ·omega
theorem b1x {l : List Vt} (h : J6 l = 0) : Vbs 1048576 l := by
 have hl := b1y (a2B h)
 unfold J6 at h
 rw [a2B h, if_neg (by decide)] at h
 split at h
 ·rename_i ha
  rw [List.all_eq_true] at ha
  refine ⟨by omega, fun v hv => ?_⟩
  have := ha v hv
  unfold okV at this
  simp only [Bool.and_eq_true] at this
  exact ⟨H6 this.1.2, H6 this.2⟩
 ·cases h
theorem a5G {l : Lk} (h : X9 l = 0) : Lb 1048576 l /\ Nm.G5 (Nm.j3 l.low) (Nm.j3 l.high) < 0 /\ 0 < J2 (Nm.j3 l.speed) := by
 unfold X9 at h
 split at h
 ·cases h
 rename_i h1
 split at h
 ·cases h
 rename_i h2
 split at h
 ·rename_i h3; exact absurd h h3
 rename_i h3
 split at h
 ·rename_i h4
  have h1a : (p8 l.length && p8 l.low && p8 l.high && p8 l.speed && p8 l.brake) = true := by
   cases hb : (p8 l.length && p8 l.low && p8 l.high && p8 l.speed && p8 l.brake) with
   | true => rfl
   | false => exact absurd (.inl hb) h1
  simp only [Bool.and_eq_true] at h1a
  obtain ⟨⟨⟨⟨s1, s2⟩, s3⟩, s4⟩, s5⟩ := h1a
  have hpe := b1y (Classical.not_not.1 h3)
  rw [List.all_eq_true] at h4
  refine ⟨⟨H6 s1, H6 s2, H6 s3, H6 s4, H6 s5, by omega, fun v hv => ?_⟩, ?_, ?_⟩
  ·have := h4 v hv
   simp only [Bool.and_eq_true] at this
   exact ⟨H6 this.1, H6 this.2⟩
  ·have : ¬ 0 <= Nm.G5 (Nm.j3 l.low) (Nm.j3 l.high) := fun h => h1 (.inr (.inr h))
   omega
  ·have : ¬ J2 (Nm.j3 l.speed) <= 0 := fun h => h2 (.inl h)
   omega
 ·cases h
theorem b2g {a : Am} (h : V3 a = 0) : Ab 1048576 a /\ ∀ l ∈ a.links, X9 l = 0 := by
 unfold V3 at h
 split at h
 ·cases h
 rename_i h1
 split at h
 ·cases h
 split at h
 ·cases h
 rename_i h2 h3
 have hn : a.name.length <= 12 := by
  have : a0S a.name = true := by simpa using h1
  unfold a0S at this
  simp only [Bool.and_eq_true, decide_eq_true_eq] at this
  exact this.2
 have h3a : (p8 a.base.x && p8 a.base.y && p8 a.base.t) = true := by
  cases hb : (p8 a.base.x && p8 a.base.y && p8 a.base.t) with
  | true => rfl
  | false => exact absurd (.inr (.inl hb)) h3
 simp only [Bool.and_eq_true] at h3a
 have hl := b2l h
 exact ⟨⟨by omega, ⟨H6 h3a.1.1, H6 h3a.1.2, H6 h3a.2⟩, by omega, fun l hl' => (a5G (hl l hl')).1⟩, hl⟩
theorem a5B {f : Fr} (h : okF f = true) : Fb 1048576 f /\ Y8 f = true := by
 unfold okF okV at h
 simp only [Bool.and_eq_true, decide_eq_true_eq] at h
 obtain ⟨⟨⟨⟨⟨⟨g1, g2⟩, s1⟩, s2⟩, g3⟩, s3⟩, z⟩ := h
 refine ⟨⟨H6 s1, H6 s2, H6 s3⟩, ?_⟩
 unfold Y8 M4
 simp [g1, g2, g3, z]
theorem b9k {n : Nat} : (a3L n).length <= 5 /\ (a3s n).length <= 4 /\ (a4h n).length <= 6 := by
 refine ⟨?_, ?_, ?_⟩
 ·unfold a3L
  match n with
  | 0 | 1 | 2 | 3 => decide
  | n + 4 => simp
 ·unfold a3s
  match n with
  | 0 | 1 => decide
  | n + 2 => simp
 ·unfold a4h
  match n with
  | 0 | 1 | 2 => decide
  | n + 3 => simp
theorem b1v : ∀ (c n : Nat) (l : List Int), ∀ p ∈ Z7 c n l, p.name.length <= 4
 | 0, _, _, p, hp => by cases hp
 | c + 1, n, l, p, hp => by
  rcases List.mem_cons.1 hp with rfl | hp
  ·exact b9k.2.1
  ·exact b1v c _ _ p hp
theorem b1E : ∀ (c n : Nat) (l : List Int), ∀ p ∈ Z5 c n l, p.name.length <= 6
 | 0, _, _, p, hp => by cases hp
 | c + 1, n, l, p, hp => by
  rcases List.mem_cons.1 hp with rfl | hp
  ·exact b9k.2.2
  ·exact b1E c _ _ p hp
theorem b2f : ∀ (c : Nat) (l : List Int), ∀ p ∈ a0b c l, p.name.length <= 4
 | 0, _, p, hp => by cases hp
 | c + 1, l, p, hp => by
  rcases List.mem_cons.1 hp with rfl | hp
  ·exact (by decide : ([100, 111, 111, 114] : List UInt8).length <= 4)
  ·exact b2f c _ p hp
theorem Fb.mono {k m : Nat} {f : Fr} (h : Fb k f) (hm : k <= m) : Fb m f := ⟨h.1.mono hm, h.2.1.mono hm, h.2.2.mono hm⟩
theorem Vbs.mono {k m : Nat} {l : List Vt} (h : Vbs k l) (hm : k <= m) : Vbs m l := ⟨Nat.le_trans h.1 hm, fun v hv => ⟨(h.2 v hv).1.mono hm, (h.2 v hv).2.mono hm⟩⟩
theorem Ab.mono {k m : Nat} {a : Am} (h : Ab k a) (hm : k <= m) : Ab m a := ⟨Nat.le_trans h.1 hm, h.2.1.mono hm, Nat.le_trans h.2.2.1 hm, fun l hl => by
 obtain ⟨h1, h2, h3, h4, h5, h6⟩ := h.2.2.2 l hl
 exact ⟨h1.mono hm, h2.mono hm, h3.mono hm, h4.mono hm, h5.mono hm, h6.mono hm⟩⟩
theorem Wb.mono {k m : Nat} {w : Wk} (h : Wb k w) (hm : k <= m) : Wb m w :=
  ⟨⟨Nat.le_trans h.arms.1 hm, fun x hx => (h.arms.2 x hx).mono hm⟩, ⟨Nat.le_trans h.walls.1 hm, fun x hx => (h.walls.2 x hx).mono hm⟩, ⟨Nat.le_trans h.parts.1 hm, fun x hx => ⟨Nat.le_trans (h.parts.2 x hx).1 hm, (h.parts.2 x hx).2.1.mono hm, (h.parts.2 x hx).2.2.mono hm⟩⟩,
   ⟨Nat.le_trans h.slots.1 hm, fun x hx => ⟨Nat.le_trans (h.slots.2 x hx).1 hm, (h.slots.2 x hx).2.1.mono hm, (h.slots.2 x hx).2.2.mono hm⟩⟩, ⟨Nat.le_trans h.gates.1 hm, fun x hx => ⟨Nat.le_trans (h.gates.2 x hx).1 hm, ⟨(h.gates.2 x hx).2.1.1.mono hm, (h.gates.2 x hx).2.1.2.mono hm⟩, (h.gates.2 x hx).2.2.1.mono hm, (h.gates.2 x hx).2.2.2.mono hm⟩⟩, h.walk.mono hm⟩
theorem Stb.mono {k m : Nat} {s : Stt} (h : Stb k s) (hm : k <= m) : Stb m s :=
 ⟨⟨Nat.le_trans h.arms.1 hm, fun x hx => ⟨⟨Nat.le_trans (h.arms.2 x hx).1.1 hm, fun r hr => ((h.arms.2 x hx).1.2 r hr).mono hm⟩, Nat.le_trans (h.arms.2 x hx).2.1 hm, fun r hr => ((h.arms.2 x hx).2.2 r hr).mono hm⟩⟩, ⟨Nat.le_trans h.parts.1 hm, fun x hx => (h.parts.2 x hx).mono hm⟩, h.people.mono hm, Nat.le_trans h.gates hm⟩
theorem b4x (l : List Int) : Wb 1048576 (D9 l) := by
 obtain ⟨c1, c2, c3, c4, c5⟩ := counts l
 have x1 := a5R (nA l) 0 (l.drop 1) (by omega)
 have x2 := a4d (nW l) ((l1 l).drop 1)
 have x3 := a4g (nP l) 0 ((l2 l).drop 1)
 have x4 := a2O (nS l) 0 ((l3 l).drop 1)
 have x5 := a7c (nG l) ((l4 l).drop 1)
 have a1 := l7 (l5 l) (n := 4) (by decide)
 have a2 := D7 (l5 l) (n := 4) (by decide)
 refine ⟨⟨?_, fun x hx => (b2g (x1 x hx)).1⟩, ⟨?_, fun x hx => b1x (x2.1 x hx).1⟩, ⟨?_, fun x hx => ?_⟩, ⟨?_, fun x hx => ?_⟩, ⟨?_, fun x hx => ?_⟩, ?_⟩
 ·show (a1x _ _ _).length <= _
  rw [a6K]; omega
 ·show (a1q _ _).length <= _
  rw [x2.2]; omega
 ·show (Z7 _ _ _).length <= _
  rw [x3.2.1]; omega
 ·obtain ⟨⟨h1, h2⟩, h3⟩ := x3.1 x hx
  have := b1v _ _ _ x hx
  exact ⟨by omega, b1x h1, (a5B h2).1⟩
 ·show (Z5 _ _ _).length <= _
  rw [x4.2.1]; omega
 ·have h := x4.1 x hx
  simp only [Bool.and_eq_true] at h
  have := b1E _ _ _ x hx
  exact ⟨by omega, (a5B h.1.1.1).1, H6 h.1.2⟩
 ·show (a0b _ _).length <= _
  rw [x5.2.1]; omega
 ·have h := x5.1 x hx
  simp only [Bool.and_eq_true] at h
  have := b2f _ _ x hx
  obtain ⟨⟨⟨h1, h2⟩, _⟩, _⟩ := h
  unfold okV at h1 h2
  simp only [Bool.and_eq_true] at h1 h2
  exact ⟨by omega, ⟨H6 h1.1.2, H6 h1.2⟩, H6 h2.1.2, H6 h2.2⟩
 ·exact H6 (M8 _ _ (by omega) (by decide))
theorem b9N (l : List Int) : Wb 1073741824 (D9 l) := (b4x l).mono (by decide)
theorem a7Q {α β : Type} {f : α -> β} : ∀ {l : List α} {x : α × β}, x ∈ l.zip (l.map f) -> x.1 ∈ l /\ x.2 = f x.1
 | [], x, h => by simp at h
 | a :: l, x, h => by
  simp only [List.map_cons, List.zip_cons_cons] at h
  rcases List.mem_cons.1 h with rfl | h
  ·exact ⟨List.mem_cons_self .., rfl⟩
  ·exact ⟨List.mem_cons_of_mem _ (a7Q h).1, (a7Q h).2⟩
theorem a0U (p q : Rat) : Nm.G5 p q < 0 <-> p < q := by
 unfold Nm.G5
 split
 ·simp_all
 ·split
  ·simp_all
  ·simp_all
theorem a7N (p q : Rat) : 0 < Nm.G5 p q <-> q < p := by
 unfold Nm.G5
 split
 ·rename_i h; simp; grind
 ·split
  ·rename_i h1 h2; simp; grind
  ·rename_i h1 h2; simp; grind
theorem b8H {l : Lk} (h : X9 l = 0) : a4S (l, a1k l) = 0 := by
 have hc := (a0U _ _).1 (a5G h).2.1
 unfold a4S a1k
 simp only [Nm.G9]
 rw [if_neg]
 rw [a0U, a7N]
 unfold a0a a2w
 have e1 : ∀ p q : Rat, (Nm.G5 p q >= 0) <-> ¬ p < q := fun p q => by rw [<- a0U]; omega
 have e2 : ∀ p q : Rat, (Nm.G5 p q <= 0) <-> ¬ q < p := fun p q => by rw [<- a7N]; omega
 simp only [e1, e2]
 repeat' split
 all_goals grind
theorem b5u {l : Lk} (h : X9 l = 0) : a1h (l, Nm.ofQ 0) = 0 := by
 have hs := (a5G h).2.2
 unfold a1h
 simp only [Nm.G9]
 rw [if_neg]
 have h0 : V6 0 = 0 := rfl
 rw [h0, a7N]
 have hn : 0 < (Nm.j3 l.speed).num := by
  unfold J2 at hs
  split at hs
  ·omega
  ·split at hs <;> omega
 intro hlt
 have := (Rat.lt_iff _ _).1 hlt
 simp at this
 omega
theorem b8M {a : Am} (h : V3 a = 0) (n : Nat) : a6c a (a0g a) n = 0 := by
 have hl := (b2g h).2
 unfold a6c a0g
 simp only
 have g1 : (a.links.map a1k).all M4 = true := by
  rw [List.all_eq_true]
  intro x hx
  obtain ⟨l, _, rfl⟩ := List.mem_map.1 hx
  exact decide_eq_true (Nm.a2q _)
 have g2 : (a.links.map fun _ => Nm.ofQ 0).all M4 = true := by
  rw [List.all_eq_true]
  intro x hx
  obtain ⟨l, _, rfl⟩ := List.mem_map.1 hx
  exact decide_eq_true (Nm.a2q _)
 have hf : a3o a (a.links.map a1k) = 0 := by
  rw [b3w]
  have : a4z a (a.links.map a1k).length = 0 := by
   unfold a4z
   rw [h, if_neg (by decide), List.length_map, if_neg (by simp)]
  rw [this, if_neg (by decide)]
  refine a3m fun x hx => ?_
  obtain ⟨h1, h2⟩ := a7Q hx
  obtain ⟨x1, x2⟩ := x
  simp only at h1 h2
  rw [h2]
  exact b8H (hl x1 h1)
 rw [g1, g2, if_neg (by decide), hf, if_neg (by decide), if_neg (by simp; omega)]
 refine a3m fun x hx => ?_
 obtain ⟨h1, h2⟩ := a7Q hx
 obtain ⟨x1, x2⟩ := x
 simp only at h1 h2
 rw [h2]
 exact b5u (hl x1 h1)
theorem a8i (n : Nat) : ∀ (l : List Am) (h : List Int), (∀ a ∈ l, V3 a = 0) -> (C8 (a1P n) h (l.zip (l.map a0g))).1 = 0
 | [], _, _ => rfl
 | a :: l, h, ha => by
  have e : a1P n h (a, a0g a) = (0, a7L h (-1)) := by
   unfold a1P
   simp only
   rw [b8M (ha a (by simp)) n, if_neg (by decide), if_neg (by simp [a0g])]
   rfl
  simp only [List.map_cons, List.zip_cons_cons, C8, e]
  exact a8i n l _ fun x hx => ha x (by simp [hx])
theorem b4S {w : Wk} (h : a1o w = 0) (ha : ∀ a ∈ w.arms, V3 a = 0) (hs : ∀ s ∈ w.slots, okF s.frame = true) : O4 w (F8 w) = 0 := by
 unfold O4
 have l1 : (F8 w).arms.length = w.arms.length := by simp [F8]
 have l2 : (F8 w).parts.length = w.parts.length := by simp [F8]
 have l3 : (F8 w).gates.length = w.gates.length := by simp [F8]
 have l4 : (F8 w).people = [] := rfl
 have l5 : (F8 w).tick = 0 := rfl
 have hh : (C8 (a1P w.parts.length) [] (w.arms.zip (F8 w).arms)).1 = 0 := a8i _ w.arms [] ha
 have hp : (F8 w).parts.all Y8 = true := by
  rw [List.all_eq_true]
  intro f hf
  obtain ⟨i, _, rfl⟩ := List.mem_map.1 hf
  unfold a3T
  split
  ·exact (a5B (hs _ (List.getElem_mem _))).2
  ·unfold a1u Y8 M4 a4k
   simp [Nm.a2q]
 rw [h, if_neg (by decide), l4, if_neg (by decide), l1, l2, l3, l5, if_neg (by simp), hh, if_neg (by decide), hp]
 rfl
theorem a3B : Rb 1048576 (Nm.ofQ 0) := ⟨Nat.le_trans (Nm.I5 (k := 8) (by decide)) (by decide), Nat.le_trans (Nm.I5 (k := 8) (by decide)) (by decide)⟩
theorem b3m {k : Nat} (hk : 1048576 <= k) {w : Wk} (hw : Wb k w) (ha : ∀ a ∈ w.arms, V3 a = 0) (hs : ∀ s ∈ w.slots, okF s.frame = true) : Stb k (F8 w) := by
 refine ⟨⟨?_, fun x hx => ?_⟩, ⟨?_, fun x hx => ?_⟩, ⟨Nat.zero_le _, fun v hv => by cases hv⟩, ?_⟩
 ·show (w.arms.map a0g).length <= _
  rw [List.length_map]; exact hw.arms.1
 ·obtain ⟨a, haa, rfl⟩ := List.mem_map.1 hx
  have hab := hw.arms.2 a haa
  refine ⟨⟨?_, fun r hr => ?_⟩, ?_, fun r hr => ?_⟩
  ·show (a.links.map a1k).length <= _
   rw [List.length_map]; exact hab.2.2.1
  ·obtain ⟨l, hl, rfl⟩ := List.mem_map.1 hr
   have hlb := hab.2.2.2 l hl
   unfold a1k a0a a2w
   repeat' split
   all_goals first | exact hlb.2.1.fit (by omega) | exact hlb.2.2.1.fit (by omega) | exact a3B.mono hk
  ·show (a.links.map fun _ => Nm.ofQ 0).length <= _
   rw [List.length_map]; exact hab.2.2.1
  ·obtain ⟨l, hl, rfl⟩ := List.mem_map.1 hr
   exact a3B.mono hk
 ·show ((List.range _).map _).length <= _
  simp; exact hw.parts.1
 ·obtain ⟨i, _, rfl⟩ := List.mem_map.1 hx
  unfold a3T
  split
  ·exact (a5B (hs _ (List.getElem_mem _))).1.mono hk
  ·exact ⟨a3B.mono hk, a3B.mono hk, a3B.mono hk⟩
 ·show (List.replicate _ _).length <= _
  rw [List.length_replicate]; exact hw.gates.1
theorem b8B {w : Wk} (hw : Wb 1073741824 w) (ha : ∀ a ∈ w.arms, V3 a = 0) (hs : ∀ s ∈ w.slots, okF s.frame = true) : Stb 1073741824 (F8 w) := b3m (by decide) hw ha hs
theorem a8A (l : List Int) : (∀ a ∈ (D9 l).arms, V3 a = 0) /\ ∀ s ∈ (D9 l).slots, okF s.frame = true := by
 obtain ⟨c1, c2, c3, c4, c5⟩ := counts l
 refine ⟨a5R (nA l) 0 (l.drop 1) (by omega), fun s hs => ?_⟩
 have h := (a2O (nS l) 0 ((l3 l).drop 1)).1 s hs
 simp only [Bool.and_eq_true] at h
 exact h.1.1.1
end Go.Proofs.YtogfpjohjphngaaGreatDoor
namespace Go.Proofs.YtogfpjohjphngaaGreatDoor
set_option linter.all false
open Go Go.RowKit Eng
set_option maxRecDepth 10000
set_option maxHeartbeats 4000000
def a1e (f g : Fr) (c : Vt) : Rat := a0a (V6 (a3c f c - a3c g c)) (V6 (a3d f c - a3d g c))
def a1X (f g : Fr) (l : List Vt) : Rat := l.foldl (fun m c => a0a m (a1e f g c)) 0
theorem a7F (p q : Rat) : a0a p q = if p < q then q else p := by
 unfold a0a
 by_cases h : p < q
 ·rw [if_pos h, if_neg]
  have := (a0U p q).2 h
  omega
 ·rw [if_neg h, if_pos]
  have : ¬ Nm.G5 p q < 0 := fun h2 => h ((a0U p q).1 h2)
  omega
theorem b6C (p : Rat) : V6 p = if p < 0 then -p else p := by
 unfold V6
 have hn : p.num < 0 <-> p < 0 := by
  have := @Rat.num_nonneg p
  rw [<- Rat.not_le, <- this]; omega
 by_cases h : p < 0
 ·rw [if_pos h, if_pos (hn.2 h)]
 ·rw [if_neg h, if_neg (fun h2 => h (hn.1 h2))]
theorem b6v (f g : Fr) : ∀ (l : List Vt) (m : Rat), m <= l.foldl (fun m c => a0a m (a1e f g c)) m
 | [], m => by simp only [List.foldl_nil]; grind
 | c :: l, m => by
  rw [List.foldl_cons]
  have h := b6v f g l (a0a m (a1e f g c))
  have : m <= a0a m (a1e f g c) := by rw [a7F]; split <;> grind
  grind
theorem b5s (f g : Fr) (l : List Vt) : 0 <= a1X f g l := b6v f g l 0
theorem a6b (f g : Fr) (k : Rat) : ∀ (l : List Vt), (∀ c ∈ l, a1e f g c = k) -> l.foldl (fun m c => a0a m (a1e f g c)) k = k
 | [], _ => rfl
 | c :: l, h => by
  rw [List.foldl_cons, h c (by simp), a7F, if_neg (by grind)]
  exact a6b f g k l fun x hx => h x (by simp [hx])
theorem b9n (f : Fr) (c : Vt) : a1e f f c = 0 := by
 unfold a1e
 rw [show a3c f c - a3c f c = 0 by grind, show a3d f c - a3d f c = 0 by grind]
 decide +kernel
theorem b8K (f : Fr) (l : List Vt) : a1X f f l = 0 := a6b f f 0 l fun c _ => b9n f c
theorem a9r (f g : Fr) (k : Rat) (hk : 0 < k) (hx : Nm.j3 g.x = Nm.j3 f.x + k) (hy : g.y = f.y) (hh : g.half = f.half) (ht : g.t = f.t) (c : Vt) : a1e g f c = k := by
 unfold a1e a3c a3d
 rw [hx, hy, hh, ht]
 generalize (Nm.j3 c.x * U1 f.half (F9 f.half f.t) - Nm.j3 c.y * U3 (F9 f.half f.t)) = a
 generalize (Nm.j3 c.x * U3 (F9 f.half f.t) + Nm.j3 c.y * U1 f.half (F9 f.half f.t)) = b
 rw [show Nm.j3 f.x + k + a - (Nm.j3 f.x + a) = k by grind, show Nm.j3 f.y + b - (Nm.j3 f.y + b) = 0 by grind, b6C, b6C, a7F, if_neg (show ¬ k < 0 by grind), if_neg (show ¬ (0 : Rat) < 0 by grind), if_neg (by grind)]
theorem b7d (f g : Fr) (k : Rat) (hk : 0 < k) (hx : Nm.j3 g.x = Nm.j3 f.x + k) (hy : g.y = f.y) (hh : g.half = f.half) (ht : g.t = f.t) (l : List Vt) (hl : l ≠ []) : a1X g f l = k := by
 cases l with
 | nil => exact absurd rfl hl
 | cons c l =>
  unfold a1X
  rw [List.foldl_cons, a9r f g k hk hx hy hh ht, a7F, if_pos hk]
  exact a6b g f k l fun c _ => a9r f g k hk hx hy hh ht c
def K3 (o : Nat -> Rat) : Nat -> Nat × Rat
 | 0 => (0, 0)
 | n + 1 => if n = 0 \/ Nm.G5 (o n) (K3 o n).2 < 0 then (n, o n) else K3 o n
theorem a5b (o : Nat -> Rat) : ∀ n, 0 < n -> (K3 o n).1 < n /\ (K3 o n).2 = o (K3 o n).1 /\ (∀ j, j < n -> (K3 o n).2 <= o j) /\ ∀ j, j < (K3 o n).1 -> (K3 o n).2 < o j
 | 0, h => absurd h (by decide)
 | n + 1, _ => by
  unfold K3
  split
  ·rename_i h
   refine ⟨by simp only; omega, rfl, fun j hj => ?_, fun j hj => ?_⟩
   ·rcases Nat.lt_or_eq_of_le (Nat.le_of_lt_succ hj) with h1 | h1
    ·rcases h with h | h
     ·omega
     ·have := (a5b o n (by omega)).2.2.1 j h1
      have h2 := (a0U _ _).1 h
      simp only; grind
    ·subst h1; simp only; grind
   ·simp only at hj ⊢
    rcases h with h | h
    ·omega
    ·have := (a5b o n (by omega)).2.2.1 j hj
     have h2 := (a0U _ _).1 h
     grind
  ·rename_i h
   have h0 : 0 < n := by omega
   obtain ⟨h1, h2, h3, h4⟩ := a5b o n h0
   refine ⟨by omega, h2, fun j hj => ?_, h4⟩
   rcases Nat.lt_or_eq_of_le (Nat.le_of_lt_succ hj) with h5 | h5
   ·exact h3 j h5
   ·subst h5
    have : ¬ o j < (K3 o j).2 := fun h6 => h (.inr ((a0U _ _).2 h6))
    grind
theorem b9r {o : Nat -> Rat} {n i : Nat} (hi : i < n) (h0 : o i = 0) (hn : ∀ j, j < n -> 0 <= o j) : (K3 o n).1 <= i /\ (K3 o n).2 = 0 := by
 obtain ⟨h1, h2, h3, h4⟩ := a5b o n (by omega)
 have h5 := h3 i hi
 have h6 := hn _ h1
 rw [<- h2] at h6
 refine ⟨Classical.byContradiction fun h => ?_, by grind⟩
 have := h4 i (by omega)
 grind
theorem b5O {w : Wk} {s : Stt} {i : Nat} {f : Fr} (g : Fr) (h : O4 w s = 0) (hf : s.parts[i]? = some f) (hg : Y8 g = true) : O4 w ⟨s.tick, s.arms, s.parts.set i g, s.people, s.gates⟩ = 0 := by
 unfold O4 at h ⊢
 simp only [List.length_set]
 split at h
 ·exact absurd h (by assumption)
 rw [if_neg (by assumption)]
 split at h
 ·cases h
 rw [if_neg (by assumption)]
 split at h
 ·cases h
 rw [if_neg (by assumption)]
 split at h
 ·exact absurd h (by assumption)
 rw [if_neg (by assumption)]
 split at h
 ·rename_i h4
  rw [if_pos]
  rw [Bool.and_eq_true] at h4 ⊢
  refine ⟨?_, h4.2⟩
  rw [List.all_eq_true]
  intro x hx
  rcases List.mem_or_eq_of_mem_set hx with h5 | h5
  ·exact List.all_eq_true.1 h4.1 x h5
  ·rw [h5]; exact hg
 ·cases h
theorem b6n {k : Nat} {p q : Rat} (hp : Rb k (Nm.ofQ p)) (hq : Rb k (Nm.ofQ q)) : Rb k (Nm.ofQ (a0a p q)) := by
 unfold a0a; split <;> assumption
theorem a7H {k : Nat} {p : Rat} (h : Rb k (Nm.ofQ p)) : Rb k (Nm.ofQ (V6 p)) := by
 unfold V6; split
 ·exact b1n h
 ·exact h
theorem b0y {k : Nat} (hk : 8 <= k) {f : Fr} {c : Vt} (hf : Fb k f) (hc : Vb k c) : Rb (11 * k + 38) (Nm.ofQ (a3c f c)) /\ Rb (11 * k + 38) (Nm.ofQ (a3d f c)) := by
 obtain ⟨h1, h2, h3⟩ := hf
 have ft := a7R (h := f.half) h3 (by omega)
 have rc1 := b4C f.half ft
 have rs1 := b3b ft
 have fa := hc.1.fit (by omega)
 have fb := hc.2.fit (by omega)
 exact ⟨(a0e (h1.fit (by omega)) (Z8 (M7 fa rc1) (M7 fb rs1))).mono (by omega), (a0e (h2.fit (by omega)) (a0e (M7 fa rs1) (M7 fb rc1))).mono (by omega)⟩
theorem b6s {k : Nat} (hk : 8 <= k) {f g : Fr} {c : Vt} (hf : Fb k f) (hg : Fb k g) (hc : Vb k c) : Rb (22 * k + 77) (Nm.ofQ (a1e f g c)) := by
 obtain ⟨a1, a2⟩ := b0y hk hf hc
 obtain ⟨b1, b2⟩ := b0y hk hg hc
 exact b6n ((a7H (Z8 a1 b1)).mono (by omega)) ((a7H (Z8 a2 b2)).mono (by omega))
theorem b6x {k m : Nat} {f g : Fr} : ∀ (l : List Vt) (q : Rat), (∀ c ∈ l, Rb m (Nm.ofQ (a1e f g c))) -> Rb m (Nm.ofQ q) -> Rb m (Nm.ofQ (l.foldl (fun m c => a0a m (a1e f g c)) q))
 | [], _, _, h => h
 | c :: l, q, h1, h2 => by
  rw [List.foldl_cons]
  exact b6x (k := k) l _ (fun x hx => h1 x (by simp [hx])) (b6n h2 (h1 c (by simp)))
theorem b9R {k : Nat} (hk : 8 <= k) {f g : Fr} (hf : Fb k f) (hg : Fb k g) (l : List Vt) (hl : ∀ c ∈ l, Vb k c) : Rb (22 * k + 77) (Nm.ofQ (a1X f g l)) :=
 b6x (k := k) l 0 (fun c hc => b6s hk hf hg (hl c hc)) (⟨Nat.le_trans (Nm.I5 (k := 8) (by decide)) (by omega), Nat.le_trans (Nm.I5 (k := 8) (by decide)) (by omega)⟩)
end Go.Proofs.YtogfpjohjphngaaGreatDoor
namespace Go.Proofs.YtogfpjohjphngaaGreatDoor
set_option linter.all false
open Go Go.RowKit Eng
set_option maxRecDepth 10000
set_option maxHeartbeats 8000000
theorem b8Q (v : Vt) (hv : Vb 17179869184 v) : FZ 197 [v.c] (.v (.bool (!okV v))) := by
 refine q8.of a8Z a8V (by exact Nat.le_of_ble_eq_true rfl) fun w O hw => ?_
 obtain ⟨x, y⟩ := v
 obtain ⟨b1, b2⟩ := hv
 simp only at b1 b2
 have h1 := a2K x (b1.mono (by decide))
 have h2 := a2K y (b2.mono (by decide))
 have h3 := a3u x b1
 have h4 := a3u y b2
 unfold okV
 simp only
 generalize decide x.H7 = q1 at *
 generalize decide y.H7 = q2 at *
 generalize p8 x = q3 at *
 generalize p8 y = q4 at *
 simp only [a3O, l9, TT, II, OA, OB, OC, MM, LL, VV, FF, MG, LG, VG, FG]
 simp only [Vt.c, Vt.enc, rc, sb] at *
 (repeat first | refine uA ?_ | (apply S.exit; exact rfl) | ((with_reducible refine And.intro ?_ ?_); focus first | omega | trivial | exact id | (intros; simp_all <;> omega)) | simp (disch := omega) only [go_sem, Nat.reduceBEq, Nat.reduceAdd, Nat.reduceLeDiff, Int.reduceToNat, Int.reducePow, ww] | (refine uD h1 ?_ ?_ ?_; exact tz hw; exact rfl) | (refine uD h2 ?_ ?_ ?_; exact tz hw; exact rfl) | (refine uD h3 ?_ ?_ ?_; exact tz hw; exact rfl) | (refine uD h4 ?_ ?_ ?_; exact tz hw; exact rfl))
 have e : (!(q1 && q2 && q3 && q4)) = (!q1 || !q2 || !q3 || !q4) := by cases q1 <;> cases q2 <;> cases q3 <;> cases q4 <;> rfl
 (try rw [e])
 exact S.done (d9.out rfl (Imp.refl rfl) rfl)
theorem a8P (l : List Vt) (hl : Vbs 17179869184 l) : FZ 83 [vts l] (.v (.bool (l.all okV))) := by
 refine q8.of b1h b0J (by exact Nat.le_of_ble_eq_true rfl) fun w O hw => ?_
 have h := b4L 197 (by kernel_rfl) (fun v => !okV v) l (by have := hl.1; omega) (fun v hv => b8Q v (hl.2 v hv))
 have e : l.all okV = !l.any fun v => !okV v := by rw [List.not_any_eq_all_not]; simp
 rw [e]
 generalize (l.any fun v => !okV v) = q at *
 simp only [a5w, l9, TT, II, OA, OB, OC, MM, LL, VV, FF, MG, LG, VG, FG]
 simp only [vts] at *
 (repeat first | refine uA ?_ | (apply S.exit; exact rfl) | ((with_reducible refine And.intro ?_ ?_); focus first | omega | trivial | exact id | (intros; simp_all <;> omega)) | simp (disch := omega) only [go_sem, Nat.reduceBEq, Nat.reduceAdd, Nat.reduceLeDiff, Int.reduceToNat, Int.reducePow, ww] | (refine uD h ?_ ?_ ?_; exact tz hw; exact rfl))
 exact S.done (d9.out rfl (Imp.refl rfl) rfl)
theorem Vbs.one {k : Nat} {v : Vt} (h : 1 <= k) (h1 : Vb k v) : Vbs k [v] := ⟨h, fun x hx => by simp at hx; subst hx; exact h1⟩
theorem Vbs.two {k : Nat} {v u : Vt} (h : 2 <= k) (h1 : Vb k v) (h2 : Vb k u) : Vbs k [v, u] := ⟨h, fun x hx => by simp at hx; rcases hx with rfl | rfl <;> assumption⟩
theorem b4K (f : Fr) (hf : Fb 17179869184 f) : FZ 21 [f.c] (.v (.bool (okF f))) := by
 refine q8.of b1j b0S (by exact Nat.le_of_ble_eq_true rfl) fun w O hw => ?_
 obtain ⟨x, y, half, t⟩ := f
 obtain ⟨b1, b2, b3⟩ := hf
 simp only at b1 b2 b3
 have h1 := a8P [⟨x, y⟩] (Vbs.one (by decide) ⟨b1, b2⟩)
 rw [List.all_cons, List.all_nil, Bool.and_true] at h1
 have h2 := a2K t (b3.mono (by decide))
 have h3 := a3u t b3
 have h4 := a0u t b3
 unfold okF a4k
 simp only
 generalize okV ⟨x, y⟩ = q1 at *
 generalize decide t.H7 = q2 at *
 generalize p8 t = q3 at *
 generalize J2 (Nm.j3 t) = n at *
 simp only [a5y, l9, TT, II, OA, OB, OC, MM, LL, VV, FF, MG, LG, VG, FG]
 simp only [Fr.c, Fr.enc, vts, Vt.enc, rc, sb, ints, List.map_cons, List.map_nil] at *
 (repeat first | refine uA ?_ | (apply S.exit; exact rfl) | ((with_reducible refine And.intro ?_ ?_); focus first | omega | trivial | exact id | (intros; simp_all <;> omega)) | simp (disch := omega) only [go_sem, Nat.reduceBEq, Nat.reduceAdd, Nat.reduceLeDiff, Int.reduceToNat, Int.reducePow, ww] | (refine uD h2 ?_ ?_ ?_; exact tz hw; exact rfl) | (refine uD h3 ?_ ?_ ?_; exact tz hw; exact rfl) | (refine uD h4 ?_ ?_ ?_; exact tz hw; exact rfl) | (refine uE h1 ?_ ?_ ?_ ?_; exact tz hw; exact rfl; focus (repeat' first | exact q9.nil | exact Imp.refl rfl | exact Imp.frz rfl rfl rfl | (refine Imp.R6 rfl rfl ?_ ?_; (focus ((try simp only [List.length_append]); omega)); (focus first | rfl | assumption)) | refine q9.cons ?_ ?_); done))
 have e : (q1 && q2 && q3 && !(half && !decide (n = 0))) = (q1 && q2 && q3 && (!half || decide (n = 0))) := by cases q1 <;> cases q2 <;> cases q3 <;> cases half <;> simp
 rw [e]
 exact S.done (d9.out rfl (Imp.refl (by rfl)) rfl)
theorem b4h (l : List Vt) (hl : Vbs 1073741824 l) : FZ 91 [vts l] (ints (J6 l)) := by
 refine q8.of b1l b0O (by exact Nat.le_of_ble_eq_true rfl) fun w O hw => ?_
 have h1 := a8l l hl
 have h2 := a8P l ⟨by have := hl.1; omega, fun v hv => (hl.2 v hv).mono (by decide)⟩
 unfold J6
 generalize P7 l 8 = e at *
 generalize l.all okV = q at *
 simp only [a5m, l9, TT, II, OA, OB, OC, MM, LL, VV, FF, MG, LG, VG, FG]
 simp only [vts, ints] at *
 (repeat first | refine uA ?_ | (apply S.exit; exact rfl) | ((with_reducible refine And.intro ?_ ?_); focus first | omega | trivial | exact id | (intros; simp_all <;> omega)) | simp (disch := omega) only [go_sem, Nat.reduceBEq, Nat.reduceAdd, Nat.reduceLeDiff, Int.reduceToNat, Int.reducePow, ww] | (refine uD h1 ?_ ?_ ?_; exact tz hw; exact rfl))
 refine S.cond rfl (fun hc => ?_) (fun hc => ?_)
 ·rw [if_pos (by simpa using hc)]
  (repeat first | refine uA ?_ | (apply S.exit; exact rfl) | ((with_reducible refine And.intro ?_ ?_); focus first | omega | trivial | exact id | (intros; simp_all <;> omega)) | simp (disch := omega) only [go_sem, Nat.reduceBEq, Nat.reduceAdd, Nat.reduceLeDiff, Int.reduceToNat, Int.reducePow, ww])
  exact S.done (d9.out rfl (Imp.refl rfl) rfl)
 rw [if_neg (by simpa using hc)]
 (repeat first | refine uA ?_ | (apply S.exit; exact rfl) | ((with_reducible refine And.intro ?_ ?_); focus first | omega | trivial | exact id | (intros; simp_all <;> omega)) | simp (disch := omega) only [go_sem, Nat.reduceBEq, Nat.reduceAdd, Nat.reduceLeDiff, Int.reduceToNat, Int.reducePow, ww] | (refine uD h2 ?_ ?_ ?_; exact tz hw; exact rfl))
 refine S.cond rfl (fun hc => ?_) (fun hc => ?_)
 ·rw [if_neg (by simpa using hc)]
  (repeat first | refine uA ?_ | (apply S.exit; exact rfl) | ((with_reducible refine And.intro ?_ ?_); focus first | omega | trivial | exact id | (intros; simp_all <;> omega)) | simp (disch := omega) only [go_sem, Nat.reduceBEq, Nat.reduceAdd, Nat.reduceLeDiff, Int.reduceToNat, Int.reducePow, ww])
  exact S.done (d9.out rfl (Imp.refl rfl) rfl)
 ·rw [if_pos (by simpa using hc)]
  (repeat first | refine uA ?_ | (apply S.exit; exact rfl) | ((with_reducible refine And.intro ?_ ?_); focus first | omega | trivial | exact id | (intros; simp_all <;> omega)) | simp (disch := omega) only [go_sem, Nat.reduceBEq, Nat.reduceAdd, Nat.reduceLeDiff, Int.reduceToNat, Int.reducePow, ww])
  exact S.done (d9.out rfl (Imp.refl rfl) rfl)
end Go.Proofs.YtogfpjohjphngaaGreatDoor
namespace Go.Proofs.YtogfpjohjphngaaGreatDoor.Eng
set_option linter.all false
open Go Go.RowKit
theorem j6.ofT {E : Ctx} {eff : Nat -> Bool} {f : Nat} {fn : Func} {ir : p9} (ht : Tz E) (hf : E.P.funcs[f]? = some fn) (hc : l6 eff E.P fn = some ir) {rs : List Res} {args : List C} {s : C} {rs' : List Res} {pk : List Nat} (hn : args.length <= ir.ntmps)
  (h : ∀ w own av ν, ν.length = rs.length -> Tz ⟨E.P, eff, ir.ntmps, w, own, av, ν, pk⟩ -> S ⟨E.P, eff, ir.ntmps, w, own, av, ν, pk⟩ (Fin E.P ir.results (b7Z ⟨E.P, eff, ir.ntmps, w, own, av, ν, pk⟩ rs' s)) ⟨l9 0 args, rs⟩ [.code ir.body]) : j6 E rs f args s rs' pk := by
 intro av ν w vs hR hav hF hD
 have hR' : RG av (owned rs ν) w.heap.size ν rs w := ⟨hR.len, hR.res, hR.dis, fun b hb => ⟨(hR.low b hb).1, (hR.low b hb).2.1, .inl hb⟩, hR.av, Nat.le_refl _⟩
 have ht' : Tz ⟨E.P, eff, ir.ntmps, w, owned rs ν, av, ν, pk⟩ := ⟨ht.at hF, fun ho => by
  rcases (hR.low _ ho).2.2 with h1 | h1
  ·exact ht.2 h1
  ·have := c1j ht.1; omega⟩
 refine (b3d (E := ⟨E.P, eff, ir.ntmps, w, owned rs ν, av, ν, pk⟩) hf hc rfl rfl hR.av rs hR' args hD hn (h w (owned rs ν) av ν hR.len ht')).mono ?_
 rintro e w' ⟨y, rfl, ν', h1, h2, h3, h4⟩
 refine ⟨y, ν', rfl, ⟨h1.len, h1.res, h1.dis, fun b hb => ?_, h1.av, Nat.le_trans hR.n0 h2.size⟩, ⟨h2.os, h2.tape, h2.output, h2.size, h2.block, fun b hb => (h1.low b hb).2.2, h3⟩, h4⟩
 obtain ⟨g1, g2, g3⟩ := h1.low b hb
 refine ⟨g1, g2, ?_⟩
 rcases g3 with g3 | g3
 ·exact (hR.low b g3).2.2
 ·exact .inr (Nat.le_trans hR.n0 g3)
def Res.shut : Res -> Bool
 | .gone => false
 | .box _ cs => C.clL cs
 | .row _ _ _ => true
 | .map _ _ => true
theorem a5z {ν ν' : List Value} {w : World} {O O' : Nat -> Prop} {x : Value} {r : Res} (hs : r.shut = true) (hO : ∀ b, O' b -> O b) (h : K6 ν w O x r) : K6 ν' w O' x r := by
 cases r with
 | gone => cases hs
 | box t cs =>
  obtain ⟨b, vs, h1, h2, h3, h4⟩ := h
  exact ⟨b, vs, h1, (FzL.keep (Keeps.sub hO) (h2.fz hs)).den ν', h3, h4⟩
 | row e sz es => exact a5s hO h
 | map s es => exact h
theorem c1K {r r' : Res} (hs : r.shut = true) {x : Value} {b : Nat} (h : fp r' x b) : fp r x b := by
 cases r <;> cases r' <;> first | exact False.elim h | exact h | (cases hs; done)
def at0 (k : Nat) : C -> C
 | .mp 0 => .mp k
 | .bp 0 o => .bp k o
 | .rv 0 => .rv k
 | .bnd f (.mp 0) => .bnd f (.mp k)
 | c => c
def okA : C -> Bool
 | .mp 0 => true
 | .bp 0 _ => true
 | .rv 0 => true
 | .bnd _ (.mp 0) => true
 | c => c.cl
theorem c1M {ν : List Value} {w : World} {O O' : Nat -> Prop} {k : Nat} {x : Value} (hk : ν[k]? = some x) (hO : ∀ b, O' b -> O b) {c : C} {y : Value} (hc : okA c = true) (h : Den ν w O (at0 k c) y) : Den [x] w O' c y := by
 unfold okA at hc
 split at hc
 ·simp only [at0, Den] at h ⊢
  rw [hk] at h
  exact h
 ·simp only [at0, Den] at h ⊢
  rw [hk] at h
  exact h
 ·simp only [at0, Den] at h ⊢
  rw [hk] at h
  exact h
 ·simp only [at0, Den] at h ⊢
  rw [hk] at h
  exact h
 ·rename_i c0 h1 h2 h3 h4
  have e : at0 k c = c := by
   cases c with
   | mp j => cases j with
    | zero => exact (h1 rfl).elim
    | succ j => rfl
   | bp j o => cases j with
    | zero => exact (h2 _ rfl).elim
    | succ j => rfl
   | rv j => cases j with
    | zero => exact (h3 rfl).elim
    | succ j => rfl
   | bnd g d => cases d with
    | mp j => cases j with
     | zero => exact (h4 _ rfl).elim
     | succ j => rfl
    | _ => rfl
   | _ => rfl
  rw [e] at h
  exact (Fz.keep (Keeps.sub hO) (h.fz hc)).den _
theorem b3U {ν : List Value} {w : World} {O O' : Nat -> Prop} {k : Nat} {x : Value} (hk : ν[k]? = some x) (hO : ∀ b, O' b -> O b) : ∀ {cs : List C} {vs : List Value}, cs.all okA = true -> j4 ν w O (cs.map (at0 k)) vs -> j4 [x] w O' cs vs
 | [], vs, _, h => by simpa only [List.map_nil, j4] using h
 | c :: cs, vs, hc, h => by
  simp only [List.map_cons, j4, List.all_cons, Bool.and_eq_true] at h hc ⊢
  obtain ⟨y, ys, e, h1, h2⟩ := h
  exact ⟨y, ys, e, c1M hk hO hc.1 h1, b3U hk hO hc.2 h2⟩
theorem j6.lift {E : Ctx} {rs : List Res} {k f : Nat} {args : List C} {s : C} {r r' : Res} (hk : rs[k]? = some r) (h : j6 E [r] f args s [r'] []) (hs : (r.shut && r'.shut) = true) (ha : args.all okA = true) (hc : s.cl = true) : j6 E rs f (args.map (at0 k)) s (rs.set k r') [] := by
 rw [Bool.and_eq_true] at hs
 intro av ν w vs hR hav hF hD
 obtain ⟨x, hx, hok⟩ := hR.res k r hk
 have hown : ∀ b, fp r x b -> owned rs ν b := fun b hb => ⟨k, r, x, hk, hx, hb⟩
 have ho1 : ∀ (q : Res) b, owned [q] [x] b <-> fp q x b := fun q b => by
  constructor
  ·rintro ⟨l, q', y, h1, h2, h3⟩
   cases l with
   | zero => simp at h1 h2; subst h1 h2; exact h3
   | succ l => simp at h1
  ·exact fun hb => ⟨0, q, x, rfl, rfl, hb⟩
 let av' : Nat -> Prop := fun b => OO av rs ν b /\ ¬ fp r x b
 have hOO : ∀ b, OO av' [r] [x] b -> OO av rs ν b := fun b hb => by
  rcases hb with hb | hb
  ·exact hb.1
  ·exact .inr (hown b ((ho1 r b).1 hb))
 have hRG : RG av' E.own0 E.w0.heap.size [x] [r] w := by
  refine ⟨rfl, fun l q hq => ?_, fun l m q q' y y' b hne h1 h2 => ?_, fun b hb => ?_, fun b hb => ?_, hR.n0⟩
  ·cases l with
   | zero => simp at hq; subst hq; exact ⟨x, rfl, a5z hs.1 hOO hok⟩
   | succ l => simp at hq
  ·have e1 : l = 0 := by have := (List.getElem?_eq_some_iff.1 h1).1; simp at this; exact this
   have e2 : m = 0 := by have := (List.getElem?_eq_some_iff.1 h2).1; simp at this; exact this
   omega
  ·have hb' := (ho1 r b).1 hb
   obtain ⟨g1, g2, g3⟩ := hR.low b (hown b hb')
   exact ⟨g1, fun h => h.2 hb', g3⟩
  ·rcases hb.1 with h1 | h1
   ·exact hR.av b h1
   ·exact (hR.low b h1).1
 have hav' : ∀ b, E.av b -> av' b := fun b hb => ⟨.inl (hav b hb), fun hf => (hR.low b (hown b hf)).2.1 (hav b hb)⟩
 have hD' : j4 [x] w (OO av' [r] [x]) args vs := b3U hx hOO ha hD
 refine (h av' [x] w vs hRG hav' hF hD').mono ?_
 rintro e w' ⟨y, ν', rfl, h1, h2, h3⟩
 have hν : ν' = [x] := by
  have hl := h1.len
  have h0 := h2.nu 0 x (fun hm => by cases hm) rfl
  match ν', hl, h0 with
  | [z], _, h0 => simp at h0; rw [h0]
 subst hν
 have hT : Turned w w' (fp r x) := ⟨h2.os, h2.tape, h2.output, h2.size, fun b hb hn => h2.block b hb fun ho => hn ((ho1 r b).1 ho)⟩
 have hOO' : ∀ b, OO av (rs.set k r') ν b -> OO av' [r'] [x] b := fun b hb => by
  rcases hb with hb | ⟨l, q, z, hq, hz, hf⟩
  ·exact .inl ⟨.inl hb, fun hf => (hR.low b (hown b hf)).2.1 hb⟩
  ·by_cases e : k = l
   ·subst e
    have hkl := (List.getElem?_eq_some_iff.1 hk).1
    rw [List.getElem?_set_self hkl] at hq
    rw [hx] at hz
    cases hq
    cases hz
    exact .inr ((ho1 r' b).2 hf)
   ·rw [List.getElem?_set_ne e] at hq
    exact .inl ⟨.inr ⟨l, q, z, hq, hz, hf⟩, fun hf' => hR.dis k l r q x z b e hk hq hx hz hf' hf⟩
 have hup := hR.upd (r' := r') hk hx hT (fun b hb => c1K hs.1 hb) (fun _ => by
  obtain ⟨x', hx', hok'⟩ := h1.res 0 r' rfl
  simp at hx'
  subst hx'
  exact a5z hs.2 hOO' hok')
 exact ⟨y, ν, rfl, hup.1, hup.2, (Fz.keep (Keeps.sub hOO') (h3.fz hc)).den ν⟩
end Go.Proofs.YtogfpjohjphngaaGreatDoor.Eng
namespace Go.Proofs.YtogfpjohjphngaaGreatDoor
set_option linter.all false
open Go Go.RowKit Eng
set_option maxRecDepth 10000
set_option maxHeartbeats 8000000
theorem c3m (n : Nms) (s : List UInt8) : (a0C (.string (bs s)) (nmE n)).getD (.bool false) = .bool (n.contains s) := by
 rw [c1D]; cases n.contains s <;> rfl
theorem b2S {E : Ctx} (hP : E.P = Tryz.prog) (n : Nms) (s : List UInt8) (hs : s.length <= 1099511627776) :
  j6 E [.map true (nmE n)] 88 [.mp 0, sb s] (ints (J9 n s).1) [.map true (nmE (J9 n s).2)] [] := by
 obtain ⟨P, eff', N, w0, own0, av0, nu0, pk0⟩ := E
 simp only at hP
 subst hP
 refine j6.of (eff := eff) a7f a6E (by exact Nat.le_of_ble_eq_true rfl) fun w own av ν hν => ?_
 have hν0 : ν.length <= 1 := by rw [hν]; exact Nat.le_refl _
 have h1 := c2d s hs
 have hk := c3m n s
 have hp := c2T n s
 unfold J9
 generalize a0S s = q at *
 generalize n.contains s = c at *
 simp only [a2U, l9, TT, II, OA, OB, OC, MM, LL, VV, FF, MG, LG, VG, FG]
 simp only [sb, ints] at *
 (repeat first | refine uA ?_ | (apply S.exit; exact rfl) | ((with_reducible refine And.intro ?_ ?_); focus first | omega | trivial | exact id | (intros; simp_all <;> omega)) | simp (disch := omega) only [go_sem, Nat.reduceBEq, Nat.reduceAdd, Nat.reduceLeDiff, Int.reduceToNat, Int.reducePow, ww] | (refine uB h1 ?_ ?_; exact rfl))
 refine S.cond rfl (fun hc => ?_) (fun hc => ?_)
 ·rw [if_pos (by simpa using hc)]
  (repeat first | refine uA ?_ | (apply S.exit; exact rfl) | ((with_reducible refine And.intro ?_ ?_); focus first | omega | trivial | exact id | (intros; simp_all <;> omega)) | simp (disch := omega) only [go_sem, Nat.reduceBEq, Nat.reduceAdd, Nat.reduceLeDiff, Int.reduceToNat, Int.reducePow, ww])
  (refine S.done ?_; simp only [x9, u6, go_sem, Nat.reduceBEq, Nat.reduceAdd, Nat.reduceLeDiff, Int.reduceToNat, Int.reducePow]; (repeat (refine ⟨?_, ?_⟩; focus first | trivial | omega | simp)); exact d9.L9 (Imp.refl rfl) (by (repeat first | refine uA ?_ | (refine ⟨?_, ?_⟩; focus first | rfl | trivial | (simp [slot]; done)) | rfl | trivial | simp)) (Nat.le_trans hν0 (by simp)))
 rw [if_neg (by simpa using hc)]
 (repeat first | refine uA ?_ | (apply S.exit; exact rfl) | ((with_reducible refine And.intro ?_ ?_); focus first | omega | trivial | exact id | (intros; simp_all <;> omega)) | simp (disch := omega) only [go_sem, Nat.reduceBEq, Nat.reduceAdd, Nat.reduceLeDiff, Int.reduceToNat, Int.reducePow, ww, hk])
 refine S.cond rfl (fun hc => ?_) (fun hc => ?_)
 ·rw [if_pos hc]
  (repeat first | refine uA ?_ | (apply S.exit; exact rfl) | ((with_reducible refine And.intro ?_ ?_); focus first | omega | trivial | exact id | (intros; simp_all <;> omega)) | simp (disch := omega) only [go_sem, Nat.reduceBEq, Nat.reduceAdd, Nat.reduceLeDiff, Int.reduceToNat, Int.reducePow, ww])
  (refine S.done ?_; simp only [x9, u6, go_sem, Nat.reduceBEq, Nat.reduceAdd, Nat.reduceLeDiff, Int.reduceToNat, Int.reducePow]; (repeat (refine ⟨?_, ?_⟩; focus first | trivial | omega | simp)); exact d9.L9 (Imp.refl rfl) (by (repeat first | refine uA ?_ | (refine ⟨?_, ?_⟩; focus first | rfl | trivial | (simp [slot]; done)) | rfl | trivial | simp)) (Nat.le_trans hν0 (by simp)))
 ·rw [if_neg (by rw [hc]; decide)]
  have hp := hp hc
  (repeat first | refine uA ?_ | (apply S.exit; exact rfl) | ((with_reducible refine And.intro ?_ ?_); focus first | omega | trivial | exact id | (intros; simp_all <;> omega)) | simp (disch := omega) only [go_sem, Nat.reduceBEq, Nat.reduceAdd, Nat.reduceLeDiff, Int.reduceToNat, Int.reducePow, ww, hp])
  (refine S.done ?_; simp only [x9, u6, go_sem, Nat.reduceBEq, Nat.reduceAdd, Nat.reduceLeDiff, Int.reduceToNat, Int.reducePow]; (repeat (refine ⟨?_, ?_⟩; focus first | trivial | omega | simp)); exact d9.L9 (Imp.refl rfl) (by (repeat first | refine uA ?_ | (refine ⟨?_, ?_⟩; focus first | rfl | trivial | (simp [slot]; done)) | rfl | trivial | simp)) (Nat.le_trans hν0 (by simp)))
theorem c2L {E : Ctx} (hP : E.P = Tryz.prog) (ht0 : Tz E) (n : Nms) (p : Pt) (hb : Pb 1073741824 p) :
  j6 E [.map true (nmE n)] 93 [.mp 0, p.c] (ints (a0j n p).1) [.map true (nmE (a0j n p).2)] [] := by
 obtain ⟨P, eff', N, w0, own0, av0, nu0, pk0⟩ := E
 simp only at hP
 subst hP
 refine j6.ofT (eff := eff) ht0 a6x a6y (by exact Nat.le_of_ble_eq_true rfl) fun w own av ν hν ht => ?_
 have hν0 : ν.length <= 1 := by rw [hν]; exact Nat.le_refl _
 obtain ⟨name, shape, ⟨x, y, half, t⟩⟩ := p
 obtain ⟨b0, b1, b2, b3, b4⟩ := hb
 simp only at b0 b1 b2 b3 b4
 have h1 := fun (E : Ctx) (hP : E.P = Tryz.prog) => b2S hP n name (by omega)
 have h2 := b4h shape b1
 have h3 := b4K ⟨x, y, half, t⟩ ⟨b2.mono (by decide), b3.mono (by decide), b4.mono (by decide)⟩
 unfold a0j
 simp only
 generalize J9 n name = r at *
 obtain ⟨e1, m⟩ := r
 generalize J6 shape = e2 at *
 generalize okF ⟨x, y, half, t⟩ = q at *
 simp only [a2j, l9, TT, II, OA, OB, OC, MM, LL, VV, FF, MG, LG, VG, FG]
 simp only [Pt.c, Pt.enc, Fr.c, Fr.enc, vts, sb, ints] at *
 (repeat first | refine uA ?_ | (apply S.exit; exact rfl) | ((with_reducible refine And.intro ?_ ?_); focus first | omega | trivial | exact id | (intros; simp_all <;> omega)) | simp (disch := omega) only [go_sem, Nat.reduceBEq, Nat.reduceAdd, Nat.reduceLeDiff, Int.reduceToNat, Int.reducePow, ww] | refine l8.t (j6.lift (k := 0) rfl (h1 _ rfl) rfl rfl rfl) ?_)
 refine S.cond rfl (fun hc => ?_) (fun hc => ?_)
 ·rw [if_pos (by simpa using hc)]
  (repeat first | refine uA ?_ | (apply S.exit; exact rfl) | ((with_reducible refine And.intro ?_ ?_); focus first | omega | trivial | exact id | (intros; simp_all <;> omega)) | simp (disch := omega) only [go_sem, Nat.reduceBEq, Nat.reduceAdd, Nat.reduceLeDiff, Int.reduceToNat, Int.reducePow, ww])
  (refine S.done ?_; simp only [x9, u6, go_sem, Nat.reduceBEq, Nat.reduceAdd, Nat.reduceLeDiff, Int.reduceToNat, Int.reducePow]; (repeat (refine ⟨?_, ?_⟩; focus first | trivial | omega | simp)); exact d9.L9 (Imp.refl rfl) (by (repeat first | refine uA ?_ | (refine ⟨?_, ?_⟩; focus first | rfl | trivial | (simp [slot]; done)) | rfl | trivial | simp)) (Nat.le_trans hν0 (by simp)))
 rw [if_neg (by simpa using hc)]
 (repeat first | refine uA ?_ | (apply S.exit; exact rfl) | ((with_reducible refine And.intro ?_ ?_); focus first | omega | trivial | exact id | (intros; simp_all <;> omega)) | simp (disch := omega) only [go_sem, Nat.reduceBEq, Nat.reduceAdd, Nat.reduceLeDiff, Int.reduceToNat, Int.reducePow, ww] | (refine uD h2 ?_ ?_ ?_; exact ht; exact rfl))
 refine S.cond rfl (fun hc => ?_) (fun hc => ?_)
 ·rw [if_pos (by simpa using hc)]
  (repeat first | refine uA ?_ | (apply S.exit; exact rfl) | ((with_reducible refine And.intro ?_ ?_); focus first | omega | trivial | exact id | (intros; simp_all <;> omega)) | simp (disch := omega) only [go_sem, Nat.reduceBEq, Nat.reduceAdd, Nat.reduceLeDiff, Int.reduceToNat, Int.reducePow, ww])
  (refine S.done ?_; simp only [x9, u6, go_sem, Nat.reduceBEq, Nat.reduceAdd, Nat.reduceLeDiff, Int.reduceToNat, Int.reducePow]; (repeat (refine ⟨?_, ?_⟩; focus first | trivial | omega | simp)); exact d9.L9 (Imp.refl rfl) (by (repeat first | refine uA ?_ | (refine ⟨?_, ?_⟩; focus first | rfl | trivial | (simp [slot]; done)) | rfl | trivial | simp)) (Nat.le_trans hν0 (by simp)))
 rw [if_neg (by simpa using hc)]
 (repeat first | refine uA ?_ | (apply S.exit; exact rfl) | ((with_reducible refine And.intro ?_ ?_); focus first | omega | trivial | exact id | (intros; simp_all <;> omega)) | simp (disch := omega) only [go_sem, Nat.reduceBEq, Nat.reduceAdd, Nat.reduceLeDiff, Int.reduceToNat, Int.reducePow, ww] | (refine uD h3 ?_ ?_ ?_; exact ht; exact rfl))
 refine S.cond rfl (fun hc => ?_) (fun hc => ?_)
 ·rw [if_neg (by simpa using hc)]
  (repeat first | refine uA ?_ | (apply S.exit; exact rfl) | ((with_reducible refine And.intro ?_ ?_); focus first | omega | trivial | exact id | (intros; simp_all <;> omega)) | simp (disch := omega) only [go_sem, Nat.reduceBEq, Nat.reduceAdd, Nat.reduceLeDiff, Int.reduceToNat, Int.reducePow, ww])
  (refine S.done ?_; simp only [x9, u6, go_sem, Nat.reduceBEq, Nat.reduceAdd, Nat.reduceLeDiff, Int.reduceToNat, Int.reducePow]; (repeat (refine ⟨?_, ?_⟩; focus first | trivial | omega | simp)); exact d9.L9 (Imp.refl rfl) (by (repeat first | refine uA ?_ | (refine ⟨?_, ?_⟩; focus first | rfl | trivial | (simp [slot]; done)) | rfl | trivial | simp)) (Nat.le_trans hν0 (by simp)))
 ·rw [if_pos (by simpa using hc)]
  (repeat first | refine uA ?_ | (apply S.exit; exact rfl) | ((with_reducible refine And.intro ?_ ?_); focus first | omega | trivial | exact id | (intros; simp_all <;> omega)) | simp (disch := omega) only [go_sem, Nat.reduceBEq, Nat.reduceAdd, Nat.reduceLeDiff, Int.reduceToNat, Int.reducePow, ww])
  (refine S.done ?_; simp only [x9, u6, go_sem, Nat.reduceBEq, Nat.reduceAdd, Nat.reduceLeDiff, Int.reduceToNat, Int.reducePow]; (repeat (refine ⟨?_, ?_⟩; focus first | trivial | omega | simp)); exact d9.L9 (Imp.refl rfl) (by (repeat first | refine uA ?_ | (refine ⟨?_, ?_⟩; focus first | rfl | trivial | (simp [slot]; done)) | rfl | trivial | simp)) (Nat.le_trans hν0 (by simp)))
theorem c2O {E : Ctx} (hP : E.P = Tryz.prog) (ht0 : Tz E) (n : Nms) (s : Sl) (hb : Sb 1073741824 s) :
  j6 E [.map true (nmE n)] 95 [.mp 0, s.c] (ints (a0l n s).1) [.map true (nmE (a0l n s).2)] [] := by
 obtain ⟨P, eff', N, w0, own0, av0, nu0, pk0⟩ := E
 simp only at hP
 subst hP
 refine j6.ofT (eff := eff) ht0 a6z a6A (by exact Nat.le_of_ble_eq_true rfl) fun w own av ν hν ht => ?_
 have hν0 : ν.length <= 1 := by rw [hν]; exact Nat.le_refl _
 obtain ⟨name, ⟨x, y, half, t⟩, within⟩ := s
 obtain ⟨b0, ⟨b2, b3, b4⟩, b5⟩ := hb
 simp only at b0 b2 b3 b4 b5
 have h1 := fun (E : Ctx) (hP : E.P = Tryz.prog) => b2S hP n name (by omega)
 have h3 := b4K ⟨x, y, half, t⟩ ⟨b2.mono (by decide), b3.mono (by decide), b4.mono (by decide)⟩
 have h4 := a2K within (b5.mono (by decide))
 have h5 := a3u within (b5.mono (by decide))
 have h6 := a0u within (b5.mono (by decide))
 unfold a0l
 simp only
 generalize J9 n name = r at *
 obtain ⟨e1, m⟩ := r
 generalize okF ⟨x, y, half, t⟩ = q1 at *
 generalize decide within.H7 = q2 at *
 generalize p8 within = q3 at *
 generalize J2 (Nm.j3 within) = n4 at *
 simp only [a2l, l9, TT, II, OA, OB, OC, MM, LL, VV, FF, MG, LG, VG, FG]
 simp only [Sl.c, Sl.enc, Fr.c, Fr.enc, vts, rc, sb, ints] at *
 (repeat first | refine uA ?_ | (apply S.exit; exact rfl) | ((with_reducible refine And.intro ?_ ?_); focus first | omega | trivial | exact id | (intros; simp_all <;> omega)) | simp (disch := omega) only [go_sem, Nat.reduceBEq, Nat.reduceAdd, Nat.reduceLeDiff, Int.reduceToNat, Int.reducePow, ww] | refine l8.t (j6.lift (k := 0) rfl (h1 _ rfl) rfl rfl rfl) ?_)
 refine S.cond rfl (fun hc => ?_) (fun hc => ?_)
 ·rw [if_pos (by simpa using hc)]
  (repeat first | refine uA ?_ | (apply S.exit; exact rfl) | ((with_reducible refine And.intro ?_ ?_); focus first | omega | trivial | exact id | (intros; simp_all <;> omega)) | simp (disch := omega) only [go_sem, Nat.reduceBEq, Nat.reduceAdd, Nat.reduceLeDiff, Int.reduceToNat, Int.reducePow, ww])
  (refine S.done ?_; simp only [x9, u6, go_sem, Nat.reduceBEq, Nat.reduceAdd, Nat.reduceLeDiff, Int.reduceToNat, Int.reducePow]; (repeat (refine ⟨?_, ?_⟩; focus first | trivial | omega | simp)); exact d9.L9 (Imp.refl rfl) (by (repeat first | refine uA ?_ | (refine ⟨?_, ?_⟩; focus first | rfl | trivial | (simp [slot]; done)) | rfl | trivial | simp)) (Nat.le_trans hν0 (by simp)))
 rw [if_neg (by simpa using hc)]
 (repeat first | refine uA ?_ | (apply S.exit; exact rfl) | ((with_reducible refine And.intro ?_ ?_); focus first | omega | trivial | exact id | (intros; simp_all <;> omega)) | simp (disch := omega) only [go_sem, Nat.reduceBEq, Nat.reduceAdd, Nat.reduceLeDiff, Int.reduceToNat, Int.reducePow, ww] | (refine uD h3 ?_ ?_ ?_; exact ht; exact rfl) | (refine uD h4 ?_ ?_ ?_; exact ht; exact rfl) | (refine uD h5 ?_ ?_ ?_; exact ht; exact rfl) | (refine uD h6 ?_ ?_ ?_; exact ht; exact rfl))
 refine S.cond rfl (fun hc => ?_) (fun hc => ?_)
 ·rw [if_neg (by simp only [Bool.or_eq_true, Bool.not_eq_true', decide_eq_true_eq] at hc; simp only [Bool.and_eq_true, decide_eq_true_eq]; rintro ⟨⟨⟨h7, h8⟩, h9⟩, h10⟩; rcases hc with ((hc | hc) | hc) | hc <;> first | (rw [hc] at h7; cases h7; done) | (rw [hc] at h8; cases h8; done) | (rw [hc] at h9; cases h9; done) | omega)]
  (repeat first | refine uA ?_ | (apply S.exit; exact rfl) | ((with_reducible refine And.intro ?_ ?_); focus first | omega | trivial | exact id | (intros; simp_all <;> omega)) | simp (disch := omega) only [go_sem, Nat.reduceBEq, Nat.reduceAdd, Nat.reduceLeDiff, Int.reduceToNat, Int.reducePow, ww])
  (refine S.done ?_; simp only [x9, u6, go_sem, Nat.reduceBEq, Nat.reduceAdd, Nat.reduceLeDiff, Int.reduceToNat, Int.reducePow]; (repeat (refine ⟨?_, ?_⟩; focus first | trivial | omega | simp)); exact d9.L9 (Imp.refl rfl) (by (repeat first | refine uA ?_ | (refine ⟨?_, ?_⟩; focus first | rfl | trivial | (simp [slot]; done)) | rfl | trivial | simp)) (Nat.le_trans hν0 (by simp)))
 ·rw [if_pos (by simp only [Bool.or_eq_false_iff, Bool.not_eq_false', decide_eq_false_iff_not] at hc; simp only [Bool.and_eq_true, decide_eq_true_eq]; obtain ⟨⟨⟨h7, h8⟩, h9⟩, h10⟩ := hc; exact ⟨⟨⟨h7, h8⟩, h9⟩, by omega⟩)]
  (repeat first | refine uA ?_ | (apply S.exit; exact rfl) | ((with_reducible refine And.intro ?_ ?_); focus first | omega | trivial | exact id | (intros; simp_all <;> omega)) | simp (disch := omega) only [go_sem, Nat.reduceBEq, Nat.reduceAdd, Nat.reduceLeDiff, Int.reduceToNat, Int.reducePow, ww])
  (refine S.done ?_; simp only [x9, u6, go_sem, Nat.reduceBEq, Nat.reduceAdd, Nat.reduceLeDiff, Int.reduceToNat, Int.reducePow]; (repeat (refine ⟨?_, ?_⟩; focus first | trivial | omega | simp)); exact d9.L9 (Imp.refl rfl) (by (repeat first | refine uA ?_ | (refine ⟨?_, ?_⟩; focus first | rfl | trivial | (simp [slot]; done)) | rfl | trivial | simp)) (Nat.le_trans hν0 (by simp)))
theorem c2F {E : Ctx} (hP : E.P = Tryz.prog) (ht0 : Tz E) (n : Nms) (g : Gt) (hb : Gb 1073741824 g) :
  j6 E [.map true (nmE n)] 97 [.mp 0, g.c] (ints (a0o n g).1) [.map true (nmE (a0o n g).2)] [] := by
 obtain ⟨P, eff', N, w0, own0, av0, nu0, pk0⟩ := E
 simp only at hP
 subst hP
 refine j6.ofT (eff := eff) ht0 a6v a6w (by exact Nat.le_of_ble_eq_true rfl) fun w own av ν hν ht => ?_
 have hν0 : ν.length <= 1 := by rw [hν]; exact Nat.le_refl _
 obtain ⟨name, ⟨lx, ly⟩, ⟨hx, hy⟩⟩ := g
 obtain ⟨b0, ⟨b1, b2⟩, ⟨b3, b4⟩⟩ := hb
 simp only at b0 b1 b2 b3 b4
 have h1 := fun (E : Ctx) (hP : E.P = Tryz.prog) => b2S hP n name (by omega)
 have h3 := a8P [⟨lx, ly⟩, ⟨hx, hy⟩] (Vbs.two (by decide) ⟨b1.mono (by decide), b2.mono (by decide)⟩ ⟨b3.mono (by decide), b4.mono (by decide)⟩)
 rw [b0V] at h3
 have h4 := a1n lx hx (b1.mono (by decide)) (b3.mono (by decide))
 have h5 := a1n ly hy (b2.mono (by decide)) (b4.mono (by decide))
 unfold a0o
 simp only
 generalize J9 n name = r at *
 obtain ⟨e1, m⟩ := r
 generalize (okV ⟨lx, ly⟩ && okV ⟨hx, hy⟩) = q1 at *
 generalize Nm.G5 (Nm.j3 lx) (Nm.j3 hx) = n1 at *
 generalize Nm.G5 (Nm.j3 ly) (Nm.j3 hy) = n2 at *
 simp only [a2k, l9, TT, II, OA, OB, OC, MM, LL, VV, FF, MG, LG, VG, FG]
 simp only [Gt.c, Gt.enc, vts, Vt.enc, rc, sb, ints, List.map_cons, List.map_nil] at *
 (repeat first | refine uA ?_ | (apply S.exit; exact rfl) | ((with_reducible refine And.intro ?_ ?_); focus first | omega | trivial | exact id | (intros; simp_all <;> omega)) | simp (disch := omega) only [go_sem, Nat.reduceBEq, Nat.reduceAdd, Nat.reduceLeDiff, Int.reduceToNat, Int.reducePow, ww] | refine l8.t (j6.lift (k := 0) rfl (h1 _ rfl) rfl rfl rfl) ?_)
 refine S.cond rfl (fun hc => ?_) (fun hc => ?_)
 ·rw [if_pos (by simpa using hc)]
  (repeat first | refine uA ?_ | (apply S.exit; exact rfl) | ((with_reducible refine And.intro ?_ ?_); focus first | omega | trivial | exact id | (intros; simp_all <;> omega)) | simp (disch := omega) only [go_sem, Nat.reduceBEq, Nat.reduceAdd, Nat.reduceLeDiff, Int.reduceToNat, Int.reducePow, ww])
  (refine S.done ?_; simp only [x9, u6, go_sem, Nat.reduceBEq, Nat.reduceAdd, Nat.reduceLeDiff, Int.reduceToNat, Int.reducePow]; (repeat (refine ⟨?_, ?_⟩; focus first | trivial | omega | simp)); exact d9.L9 (Imp.refl rfl) (by (repeat first | refine uA ?_ | (refine ⟨?_, ?_⟩; focus first | rfl | trivial | (simp [slot]; done)) | rfl | trivial | simp)) (Nat.le_trans hν0 (by simp)))
 rw [if_neg (by simpa using hc)]
 (repeat first | refine uA ?_ | (apply S.exit; exact rfl) | ((with_reducible refine And.intro ?_ ?_); focus first | omega | trivial | exact id | (intros; simp_all <;> omega)) | simp (disch := omega) only [go_sem, Nat.reduceBEq, Nat.reduceAdd, Nat.reduceLeDiff, Int.reduceToNat, Int.reducePow, ww] | (refine uD h4 ?_ ?_ ?_; exact ht; exact rfl) | (refine uD h5 ?_ ?_ ?_; exact ht; exact rfl) | (refine uE h3 ?_ ?_ ?_ ?_; exact ht; exact rfl; focus (repeat' first | exact q9.nil | exact Imp.refl rfl | exact Imp.frz rfl rfl rfl | (refine Imp.R6 rfl rfl ?_ ?_; (focus ((try simp only [List.length_append]); omega)); (focus first | rfl | assumption)) | refine q9.cons ?_ ?_); done))
 refine S.cond rfl (fun hc => ?_) (fun hc => ?_)
 ·rw [if_neg (by simp only [Bool.or_eq_true, Bool.not_eq_true', decide_eq_true_eq] at hc; simp only [Bool.and_eq_true, decide_eq_true_eq]; rintro ⟨⟨h7, h8⟩, h9⟩; rcases hc with (hc | hc) | hc <;> first | (rw [hc] at h7; cases h7; done) | omega)]
  (repeat first | refine uA ?_ | (apply S.exit; exact rfl) | ((with_reducible refine And.intro ?_ ?_); focus first | omega | trivial | exact id | (intros; simp_all <;> omega)) | simp (disch := omega) only [go_sem, Nat.reduceBEq, Nat.reduceAdd, Nat.reduceLeDiff, Int.reduceToNat, Int.reducePow, ww])
  (refine S.done ?_; simp only [x9, u6, go_sem, Nat.reduceBEq, Nat.reduceAdd, Nat.reduceLeDiff, Int.reduceToNat, Int.reducePow]; (repeat (refine ⟨?_, ?_⟩; focus first | trivial | omega | simp)); exact d9.L9 (Imp.refl rfl) (by (repeat first | refine uA ?_ | (refine ⟨?_, ?_⟩; focus first | rfl | trivial | (simp [slot]; done)) | rfl | trivial | simp)) (Nat.le_trans hν0 (by simp)))
 ·rw [if_pos (by simp only [Bool.or_eq_false_iff, Bool.not_eq_false', decide_eq_false_iff_not] at hc; simp only [Bool.and_eq_true, decide_eq_true_eq]; obtain ⟨⟨h7, h8⟩, h9⟩ := hc; exact ⟨⟨h7, by omega⟩, by omega⟩)]
  (repeat first | refine uA ?_ | (apply S.exit; exact rfl) | ((with_reducible refine And.intro ?_ ?_); focus first | omega | trivial | exact id | (intros; simp_all <;> omega)) | simp (disch := omega) only [go_sem, Nat.reduceBEq, Nat.reduceAdd, Nat.reduceLeDiff, Int.reduceToNat, Int.reducePow, ww])
  (refine S.done ?_; simp only [x9, u6, go_sem, Nat.reduceBEq, Nat.reduceAdd, Nat.reduceLeDiff, Int.reduceToNat, Int.reducePow]; (repeat (refine ⟨?_, ?_⟩; focus first | trivial | omega | simp)); exact d9.L9 (Imp.refl rfl) (by (repeat first | refine uA ?_ | (refine ⟨?_, ?_⟩; focus first | rfl | trivial | (simp [slot]; done)) | rfl | trivial | simp)) (Nat.le_trans hν0 (by simp)))
end Go.Proofs.YtogfpjohjphngaaGreatDoor
namespace Go.Proofs.YtogfpjohjphngaaGreatDoor
set_option linter.all false
open Go Go.RowKit Eng
set_option maxRecDepth 10000
set_option maxHeartbeats 8000000
theorem b7q {E : Ctx} (hP : E.P = Tryz.prog) (ht0 : Tz E) (n : Nms) (l : List Pt) (hn : l.length <= 1073741824) (hb : ∀ x ∈ l, Pb 1073741824 x) :
  j6 E [.map true (nmE n)] 92 [pts l, .bnd 93 (.mp 0)] (ints (C8 a0j n l).1) [.map true (nmE (C8 a0j n l).2)] [] := by
 obtain ⟨P, eff', N, w0, own0, av0, nu0, pk0⟩ := E
 simp only at hP
 subst hP
 refine j6.ofT (eff := eff) ht0 a4O a4F (by exact Nat.le_of_ble_eq_true rfl) fun w own av ν hν ht => ?_
 have hν0 : ν.length <= 1 := by rw [hν]; exact Nat.le_refl _
 simp only [a1r, l9, TT, II, OA, OB, OC, MM, LL, VV, FF, MG, LG, VG, FG, pts, ints]
 (repeat first | refine uA ?_ | (apply S.exit; exact rfl) | ((with_reducible refine And.intro ?_ ?_); focus first | omega | trivial | exact id | (intros; simp_all <;> omega)) | simp (disch := omega) only [go_sem, Nat.reduceBEq, Nat.reduceAdd, Nat.reduceLeDiff, Int.reduceToNat, Int.reducePow, ww, List.length_map])
 refine S.loop (X := Nat × Nms) (fun x => ⟨[(1, .bnd 93 (.mp 0)), (8, pts l), (9, ints l.length), (10, ints x.1)], [.map true (nmE x.2)]⟩) (fun x => x.1 <= l.length /\ C8 a0j n l = C8 a0j x.2 (l.drop x.1)) (fun x => l.length - x.1) (0, n) ⟨Nat.zero_le _, rfl⟩ (by (repeat first | refine uA ?_ | (refine ⟨?_, ?_⟩; focus first | rfl | trivial | (simp [slot]; done)) | rfl | trivial | simp | exact Nat.le_trans hν0 (by simp))) ?_
 rintro ⟨i, m⟩ ⟨hi, hg⟩
 simp only [pts, ints] at hi hg ⊢
 (repeat first | refine uA ?_ | (apply S.exit; exact rfl) | ((with_reducible refine And.intro ?_ ?_); focus first | omega | trivial | exact id | (intros; simp_all <;> omega)) | simp (disch := omega) only [go_sem, Nat.reduceBEq, Nat.reduceAdd, Nat.reduceLeDiff, Int.reduceToNat, Int.reducePow, ww])
 (refine uJ rfl (fun hc => ?_) fun hc => ?_)
 ·have hi' : i < l.length := by omega
  have hgi := List.getElem?_eq_getElem hi'
  generalize l[i] = x at hgi
  have hst := a2a (f := a0j) (s := m) hgi
  have hnx := a2c (f := a0j) (s := m) hgi
  have hs := fun (E : Ctx) (hP : E.P = Tryz.prog) (ht : Tz E) => c2L hP ht m x (hb x (List.mem_of_getElem? hgi))
  generalize a0j m x = r at *
  obtain ⟨e, m'⟩ := r
  simp only [Pt.c, Pt.enc, vts, sb, ints] at hs hst hnx
  (repeat first | refine uA ?_ | (apply S.exit; exact rfl) | ((with_reducible refine And.intro ?_ ?_); focus first | omega | trivial | exact id | (intros; simp_all <;> omega)) | simp (disch := omega) only [go_sem, Nat.reduceBEq, Nat.reduceAdd, Nat.reduceLeDiff, Int.reduceToNat, Int.reducePow, ww, hgi, Option.map_some, List.length_map, Pt.c, Pt.enc, vts, sb] | refine l8.t (j6.lift (k := 0) rfl (hs _ rfl ht) rfl rfl rfl) ?_)
  refine S.cond rfl (fun hc2 => ?_) (fun hc2 => ?_)
  ·rw [hg, hst (by simpa using hc2)]
   (repeat first | refine uA ?_ | (apply S.exit; exact rfl) | ((with_reducible refine And.intro ?_ ?_); focus first | omega | trivial | exact id | (intros; simp_all <;> omega)) | simp (disch := omega) only [go_sem, Nat.reduceBEq, Nat.reduceAdd, Nat.reduceLeDiff, Int.reduceToNat, Int.reducePow, ww])
   (refine S.done ?_; simp only [x9, u6, go_sem, Nat.reduceBEq, Nat.reduceAdd, Nat.reduceLeDiff, Int.reduceToNat, Int.reducePow]; (repeat (refine ⟨?_, ?_⟩; focus first | trivial | omega | simp)); exact d9.L9 (Imp.refl rfl) (by (repeat first | refine uA ?_ | (refine ⟨?_, ?_⟩; focus first | rfl | trivial | (simp [slot]; done)) | rfl | trivial | simp)) (Nat.le_trans hν0 (by simp)))
  ·have hc3 : e = 0 := by simpa using hc2
   (repeat first | refine uA ?_ | (apply S.exit; exact rfl) | ((with_reducible refine And.intro ?_ ?_); focus first | omega | trivial | exact id | (intros; simp_all <;> omega)) | simp (disch := omega) only [go_sem, Nat.reduceBEq, Nat.reduceAdd, Nat.reduceLeDiff, Int.reduceToNat, Int.reducePow, ww])
   refine S.next (x := (i, m)) (i + 1, m') ⟨by simp only; omega, by simp only; rw [hg, hnx hc3]⟩ (by simp only; omega) (by (repeat first | refine uA ?_ | (refine ⟨?_, ?_⟩; focus first | rfl | trivial | (simp [slot]; done)) | rfl | trivial | simp | exact Nat.le_trans hν0 (by simp)))
 ·rw [hg, a2Q (by omega)]
  (repeat first | refine uA ?_ | (apply S.exit; exact rfl) | ((with_reducible refine And.intro ?_ ?_); focus first | omega | trivial | exact id | (intros; simp_all <;> omega)) | simp (disch := omega) only [go_sem, Nat.reduceBEq, Nat.reduceAdd, Nat.reduceLeDiff, Int.reduceToNat, Int.reducePow, ww])
  (refine S.done ?_; simp only [x9, u6, go_sem, Nat.reduceBEq, Nat.reduceAdd, Nat.reduceLeDiff, Int.reduceToNat, Int.reducePow]; (repeat (refine ⟨?_, ?_⟩; focus first | trivial | omega | simp)); exact d9.L9 (Imp.refl rfl) (by (repeat first | refine uA ?_ | (refine ⟨?_, ?_⟩; focus first | rfl | trivial | (simp [slot]; done)) | rfl | trivial | simp)) (Nat.le_trans hν0 (by simp)))
theorem b7U {E : Ctx} (hP : E.P = Tryz.prog) (ht0 : Tz E) (n : Nms) (l : List Sl) (hn : l.length <= 1073741824) (hb : ∀ x ∈ l, Sb 1073741824 x) :
  j6 E [.map true (nmE n)] 94 [sls l, .bnd 95 (.mp 0)] (ints (C8 a0l n l).1) [.map true (nmE (C8 a0l n l).2)] [] := by
 obtain ⟨P, eff', N, w0, own0, av0, nu0, pk0⟩ := E
 simp only at hP
 subst hP
 refine j6.ofT (eff := eff) ht0 a4W a4M (by exact Nat.le_of_ble_eq_true rfl) fun w own av ν hν ht => ?_
 have hν0 : ν.length <= 1 := by rw [hν]; exact Nat.le_refl _
 simp only [a1g, l9, TT, II, OA, OB, OC, MM, LL, VV, FF, MG, LG, VG, FG, sls, ints]
 (repeat first | refine uA ?_ | (apply S.exit; exact rfl) | ((with_reducible refine And.intro ?_ ?_); focus first | omega | trivial | exact id | (intros; simp_all <;> omega)) | simp (disch := omega) only [go_sem, Nat.reduceBEq, Nat.reduceAdd, Nat.reduceLeDiff, Int.reduceToNat, Int.reducePow, ww, List.length_map])
 refine S.loop (X := Nat × Nms) (fun x => ⟨[(1, .bnd 95 (.mp 0)), (8, sls l), (9, ints l.length), (10, ints x.1)], [.map true (nmE x.2)]⟩) (fun x => x.1 <= l.length /\ C8 a0l n l = C8 a0l x.2 (l.drop x.1)) (fun x => l.length - x.1) (0, n) ⟨Nat.zero_le _, rfl⟩ (by (repeat first | refine uA ?_ | (refine ⟨?_, ?_⟩; focus first | rfl | trivial | (simp [slot]; done)) | rfl | trivial | simp | exact Nat.le_trans hν0 (by simp))) ?_
 rintro ⟨i, m⟩ ⟨hi, hg⟩
 simp only [sls, ints] at hi hg ⊢
 (repeat first | refine uA ?_ | (apply S.exit; exact rfl) | ((with_reducible refine And.intro ?_ ?_); focus first | omega | trivial | exact id | (intros; simp_all <;> omega)) | simp (disch := omega) only [go_sem, Nat.reduceBEq, Nat.reduceAdd, Nat.reduceLeDiff, Int.reduceToNat, Int.reducePow, ww])
 (refine uJ rfl (fun hc => ?_) fun hc => ?_)
 ·have hi' : i < l.length := by omega
  have hgi := List.getElem?_eq_getElem hi'
  generalize l[i] = x at hgi
  have hst := a2a (f := a0l) (s := m) hgi
  have hnx := a2c (f := a0l) (s := m) hgi
  have hs := fun (E : Ctx) (hP : E.P = Tryz.prog) (ht : Tz E) => c2O hP ht m x (hb x (List.mem_of_getElem? hgi))
  generalize a0l m x = r at *
  obtain ⟨e, m'⟩ := r
  simp only [Sl.c, Sl.enc, sb, ints] at hs hst hnx
  (repeat first | refine uA ?_ | (apply S.exit; exact rfl) | ((with_reducible refine And.intro ?_ ?_); focus first | omega | trivial | exact id | (intros; simp_all <;> omega)) | simp (disch := omega) only [go_sem, Nat.reduceBEq, Nat.reduceAdd, Nat.reduceLeDiff, Int.reduceToNat, Int.reducePow, ww, hgi, Option.map_some, List.length_map, Sl.c, Sl.enc, sb] | refine l8.t (j6.lift (k := 0) rfl (hs _ rfl ht) rfl rfl rfl) ?_)
  refine S.cond rfl (fun hc2 => ?_) (fun hc2 => ?_)
  ·rw [hg, hst (by simpa using hc2)]
   (repeat first | refine uA ?_ | (apply S.exit; exact rfl) | ((with_reducible refine And.intro ?_ ?_); focus first | omega | trivial | exact id | (intros; simp_all <;> omega)) | simp (disch := omega) only [go_sem, Nat.reduceBEq, Nat.reduceAdd, Nat.reduceLeDiff, Int.reduceToNat, Int.reducePow, ww])
   (refine S.done ?_; simp only [x9, u6, go_sem, Nat.reduceBEq, Nat.reduceAdd, Nat.reduceLeDiff, Int.reduceToNat, Int.reducePow]; (repeat (refine ⟨?_, ?_⟩; focus first | trivial | omega | simp)); exact d9.L9 (Imp.refl rfl) (by (repeat first | refine uA ?_ | (refine ⟨?_, ?_⟩; focus first | rfl | trivial | (simp [slot]; done)) | rfl | trivial | simp)) (Nat.le_trans hν0 (by simp)))
  ·have hc3 : e = 0 := by simpa using hc2
   (repeat first | refine uA ?_ | (apply S.exit; exact rfl) | ((with_reducible refine And.intro ?_ ?_); focus first | omega | trivial | exact id | (intros; simp_all <;> omega)) | simp (disch := omega) only [go_sem, Nat.reduceBEq, Nat.reduceAdd, Nat.reduceLeDiff, Int.reduceToNat, Int.reducePow, ww])
   refine S.next (x := (i, m)) (i + 1, m') ⟨by simp only; omega, by simp only; rw [hg, hnx hc3]⟩ (by simp only; omega) (by (repeat first | refine uA ?_ | (refine ⟨?_, ?_⟩; focus first | rfl | trivial | (simp [slot]; done)) | rfl | trivial | simp | exact Nat.le_trans hν0 (by simp)))
 ·rw [hg, a2Q (by omega)]
  (repeat first | refine uA ?_ | (apply S.exit; exact rfl) | ((with_reducible refine And.intro ?_ ?_); focus first | omega | trivial | exact id | (intros; simp_all <;> omega)) | simp (disch := omega) only [go_sem, Nat.reduceBEq, Nat.reduceAdd, Nat.reduceLeDiff, Int.reduceToNat, Int.reducePow, ww])
  (refine S.done ?_; simp only [x9, u6, go_sem, Nat.reduceBEq, Nat.reduceAdd, Nat.reduceLeDiff, Int.reduceToNat, Int.reducePow]; (repeat (refine ⟨?_, ?_⟩; focus first | trivial | omega | simp)); exact d9.L9 (Imp.refl rfl) (by (repeat first | refine uA ?_ | (refine ⟨?_, ?_⟩; focus first | rfl | trivial | (simp [slot]; done)) | rfl | trivial | simp)) (Nat.le_trans hν0 (by simp)))
theorem b8w {E : Ctx} (hP : E.P = Tryz.prog) (ht0 : Tz E) (n : Nms) (l : List Gt) (hn : l.length <= 1073741824) (hb : ∀ x ∈ l, Gb 1073741824 x) :
  j6 E [.map true (nmE n)] 96 [gts l, .bnd 97 (.mp 0)] (ints (C8 a0o n l).1) [.map true (nmE (C8 a0o n l).2)] [] := by
 obtain ⟨P, eff', N, w0, own0, av0, nu0, pk0⟩ := E
 simp only at hP
 subst hP
 refine j6.ofT (eff := eff) ht0 a4H a4K (by exact Nat.le_of_ble_eq_true rfl) fun w own av ν hν ht => ?_
 have hν0 : ν.length <= 1 := by rw [hν]; exact Nat.le_refl _
 simp only [a1i, l9, TT, II, OA, OB, OC, MM, LL, VV, FF, MG, LG, VG, FG, gts, ints]
 (repeat first | refine uA ?_ | (apply S.exit; exact rfl) | ((with_reducible refine And.intro ?_ ?_); focus first | omega | trivial | exact id | (intros; simp_all <;> omega)) | simp (disch := omega) only [go_sem, Nat.reduceBEq, Nat.reduceAdd, Nat.reduceLeDiff, Int.reduceToNat, Int.reducePow, ww, List.length_map])
 refine S.loop (X := Nat × Nms) (fun x => ⟨[(1, .bnd 97 (.mp 0)), (8, gts l), (9, ints l.length), (10, ints x.1)], [.map true (nmE x.2)]⟩) (fun x => x.1 <= l.length /\ C8 a0o n l = C8 a0o x.2 (l.drop x.1)) (fun x => l.length - x.1) (0, n) ⟨Nat.zero_le _, rfl⟩ (by (repeat first | refine uA ?_ | (refine ⟨?_, ?_⟩; focus first | rfl | trivial | (simp [slot]; done)) | rfl | trivial | simp | exact Nat.le_trans hν0 (by simp))) ?_
 rintro ⟨i, m⟩ ⟨hi, hg⟩
 simp only [gts, ints] at hi hg ⊢
 (repeat first | refine uA ?_ | (apply S.exit; exact rfl) | ((with_reducible refine And.intro ?_ ?_); focus first | omega | trivial | exact id | (intros; simp_all <;> omega)) | simp (disch := omega) only [go_sem, Nat.reduceBEq, Nat.reduceAdd, Nat.reduceLeDiff, Int.reduceToNat, Int.reducePow, ww])
 (refine uJ rfl (fun hc => ?_) fun hc => ?_)
 ·have hi' : i < l.length := by omega
  have hgi := List.getElem?_eq_getElem hi'
  generalize l[i] = x at hgi
  have hst := a2a (f := a0o) (s := m) hgi
  have hnx := a2c (f := a0o) (s := m) hgi
  have hs := fun (E : Ctx) (hP : E.P = Tryz.prog) (ht : Tz E) => c2F hP ht m x (hb x (List.mem_of_getElem? hgi))
  generalize a0o m x = r at *
  obtain ⟨e, m'⟩ := r
  simp only [Gt.c, Gt.enc, sb, ints] at hs hst hnx
  (repeat first | refine uA ?_ | (apply S.exit; exact rfl) | ((with_reducible refine And.intro ?_ ?_); focus first | omega | trivial | exact id | (intros; simp_all <;> omega)) | simp (disch := omega) only [go_sem, Nat.reduceBEq, Nat.reduceAdd, Nat.reduceLeDiff, Int.reduceToNat, Int.reducePow, ww, hgi, Option.map_some, List.length_map, Gt.c, Gt.enc, sb] | refine l8.t (j6.lift (k := 0) rfl (hs _ rfl ht) rfl rfl rfl) ?_)
  refine S.cond rfl (fun hc2 => ?_) (fun hc2 => ?_)
  ·rw [hg, hst (by simpa using hc2)]
   (repeat first | refine uA ?_ | (apply S.exit; exact rfl) | ((with_reducible refine And.intro ?_ ?_); focus first | omega | trivial | exact id | (intros; simp_all <;> omega)) | simp (disch := omega) only [go_sem, Nat.reduceBEq, Nat.reduceAdd, Nat.reduceLeDiff, Int.reduceToNat, Int.reducePow, ww])
   (refine S.done ?_; simp only [x9, u6, go_sem, Nat.reduceBEq, Nat.reduceAdd, Nat.reduceLeDiff, Int.reduceToNat, Int.reducePow]; (repeat (refine ⟨?_, ?_⟩; focus first | trivial | omega | simp)); exact d9.L9 (Imp.refl rfl) (by (repeat first | refine uA ?_ | (refine ⟨?_, ?_⟩; focus first | rfl | trivial | (simp [slot]; done)) | rfl | trivial | simp)) (Nat.le_trans hν0 (by simp)))
  ·have hc3 : e = 0 := by simpa using hc2
   (repeat first | refine uA ?_ | (apply S.exit; exact rfl) | ((with_reducible refine And.intro ?_ ?_); focus first | omega | trivial | exact id | (intros; simp_all <;> omega)) | simp (disch := omega) only [go_sem, Nat.reduceBEq, Nat.reduceAdd, Nat.reduceLeDiff, Int.reduceToNat, Int.reducePow, ww])
   refine S.next (x := (i, m)) (i + 1, m') ⟨by simp only; omega, by simp only; rw [hg, hnx hc3]⟩ (by simp only; omega) (by (repeat first | refine uA ?_ | (refine ⟨?_, ?_⟩; focus first | rfl | trivial | (simp [slot]; done)) | rfl | trivial | simp | exact Nat.le_trans hν0 (by simp)))
 ·rw [hg, a2Q (by omega)]
  (repeat first | refine uA ?_ | (apply S.exit; exact rfl) | ((with_reducible refine And.intro ?_ ?_); focus first | omega | trivial | exact id | (intros; simp_all <;> omega)) | simp (disch := omega) only [go_sem, Nat.reduceBEq, Nat.reduceAdd, Nat.reduceLeDiff, Int.reduceToNat, Int.reducePow, ww])
  (refine S.done ?_; simp only [x9, u6, go_sem, Nat.reduceBEq, Nat.reduceAdd, Nat.reduceLeDiff, Int.reduceToNat, Int.reducePow]; (repeat (refine ⟨?_, ?_⟩; focus first | trivial | omega | simp)); exact d9.L9 (Imp.refl rfl) (by (repeat first | refine uA ?_ | (refine ⟨?_, ?_⟩; focus first | rfl | trivial | (simp [slot]; done)) | rfl | trivial | simp)) (Nat.le_trans hν0 (by simp)))
theorem b6R (l : List (List Vt)) (hn : l.length <= 1073741824) (hb : ∀ x ∈ l, Vbs 1073741824 x) : FZ 90 [wls l, .v (.func (.func 91) #[] #[])] (ints (G6 J6 l)) := by
 refine q8.of a5l a4Z (by exact Nat.le_of_ble_eq_true rfl) fun w O hw => ?_
 have hcal : callable Tryz.prog 91 = true := by kernel_rfl
 simp only [a1I, l9, TT, II, OA, OB, OC, MM, LL, VV, FF, MG, LG, VG, FG, wls, ints]
 (repeat first | refine uA ?_ | (apply S.exit; exact rfl) | ((with_reducible refine And.intro ?_ ?_); focus first | omega | trivial | exact id | (intros; simp_all <;> omega)) | simp (disch := omega) only [go_sem, Nat.reduceBEq, Nat.reduceAdd, Nat.reduceLeDiff, Int.reduceToNat, Int.reducePow, ww, List.length_map])
 refine S.loop (X := Nat) (fun i => ⟨[(1, .v (.func (.func 91) #[] #[])), (8, wls l), (9, ints l.length), (10, ints i)], []⟩) (fun i => i <= l.length /\ G6 J6 l = G6 J6 (l.drop i)) (fun i => l.length - i) 0 ⟨Nat.zero_le _, rfl⟩ (by (repeat first | refine uA ?_ | (refine ⟨?_, ?_⟩; focus first | rfl | trivial | (simp [slot]; done)) | rfl | trivial | simp)) ?_
 rintro i ⟨hi, hg⟩
 simp only [wls, ints] at hi hg ⊢
 (repeat first | refine uA ?_ | (apply S.exit; exact rfl) | ((with_reducible refine And.intro ?_ ?_); focus first | omega | trivial | exact id | (intros; simp_all <;> omega)) | simp (disch := omega) only [go_sem, Nat.reduceBEq, Nat.reduceAdd, Nat.reduceLeDiff, Int.reduceToNat, Int.reducePow, ww])
 (refine uJ rfl (fun hc => ?_) fun hc => ?_)
 ·have hi' : i < l.length := by omega
  have hgi := List.getElem?_eq_getElem hi'
  generalize l[i] = x at hgi
  have hst := a1p (f := J6) hgi
  have hnx := a1l (f := J6) hgi
  have hs := b4h x (hb x (List.mem_of_getElem? hgi))
  generalize J6 x = e at *
  simp only [ints] at hs
  (repeat first | refine uA ?_ | (apply S.exit; exact rfl) | ((with_reducible refine And.intro ?_ ?_); focus first | omega | trivial | exact id | (intros; simp_all <;> omega)) | simp (disch := omega) only [go_sem, Nat.reduceBEq, Nat.reduceAdd, Nat.reduceLeDiff, Int.reduceToNat, Int.reducePow, ww, hgi, Option.map_some, List.length_map, hcal] | (refine uD hs ?_ ?_ ?_; exact tz hw; exact rfl))
  refine S.cond rfl (fun hc2 => ?_) (fun hc2 => ?_)
  ·rw [hg, hst (by simpa using hc2)]
   (repeat first | refine uA ?_ | (apply S.exit; exact rfl) | ((with_reducible refine And.intro ?_ ?_); focus first | omega | trivial | exact id | (intros; simp_all <;> omega)) | simp (disch := omega) only [go_sem, Nat.reduceBEq, Nat.reduceAdd, Nat.reduceLeDiff, Int.reduceToNat, Int.reducePow, ww])
   exact S.done (d9.out rfl (Imp.refl rfl) rfl)
  ·have hc3 : e = 0 := by simpa using hc2
   (repeat first | refine uA ?_ | (apply S.exit; exact rfl) | ((with_reducible refine And.intro ?_ ?_); focus first | omega | trivial | exact id | (intros; simp_all <;> omega)) | simp (disch := omega) only [go_sem, Nat.reduceBEq, Nat.reduceAdd, Nat.reduceLeDiff, Int.reduceToNat, Int.reducePow, ww])
   refine S.next (i + 1) ⟨by omega, by rw [hg, hnx hc3]⟩ (by omega) (by (repeat first | refine uA ?_ | (refine ⟨?_, ?_⟩; focus first | rfl | trivial | (simp [slot]; done)) | rfl | trivial | simp))
 ·rw [hg, a1V (by omega)]
  (repeat first | refine uA ?_ | (apply S.exit; exact rfl) | ((with_reducible refine And.intro ?_ ?_); focus first | omega | trivial | exact id | (intros; simp_all <;> omega)) | simp (disch := omega) only [go_sem, Nat.reduceBEq, Nat.reduceAdd, Nat.reduceLeDiff, Int.reduceToNat, Int.reducePow, ww])
  exact S.done (d9.out rfl (Imp.refl rfl) rfl)
end Go.Proofs.YtogfpjohjphngaaGreatDoor
namespace Go.Proofs.YtogfpjohjphngaaGreatDoor.Eng
set_option linter.all false
open Go Go.RowKit
def Res.bdr (n : Nat) : Res -> Bool
 | .box _ cs => C.bdL n cs
 | _ => true
theorem c2s {ν : List Value} {w : World} {O O' : Nat -> Prop} {x : Value} {r : Res} {n : Nat} (hs : r.bdr n = true) (hO : ∀ b, O' b -> O b) (h : K6 ν w O x r) : K6 (ν.take n) w O' x r := by
 cases r with
 | gone => exact h
 | box t cs =>
  obtain ⟨b, vs, h1, h2, h3, h4⟩ := h
  exact ⟨b, vs, h1, j4.keep (Keeps.sub hO) (j4.takeν n hs h2), h3, h4⟩
 | row e sz es => exact a5s hO h
 | map s es => exact h
theorem c3d {ν ν' : List Value} {w : World} {O O' : Nat -> Prop} {x : Value} {r : Res} (hn : U7 [] ν ν') (hO : ∀ b, O' b -> O b) (h : K6 ν w O x r) : K6 ν' w O' x r := by
 cases r with
 | gone => exact h
 | box t cs =>
  obtain ⟨b, vs, h1, h2, h3, h4⟩ := h
  exact ⟨b, vs, h1, j4.keep (Keeps.sub hO) (j4.nu hn (fun k hk => by cases hk) h2), h3, h4⟩
 | row e sz es => exact a5s hO h
 | map s es => exact h
theorem U7.take (ν : List Value) (n : Nat) : U7 [] (ν.take n) ν := fun _ _ _ h => a0i h
theorem c3s {ν ν' : List Value} (h : U7 [] ν ν') (hl : ν'.length = ν.length) : ν' = ν := by
 apply List.ext_getElem?
 intro i
 rcases Nat.lt_or_ge i ν.length with h1 | h1
 ·have := h i _ (fun hk => by cases hk) (List.getElem?_eq_getElem h1)
  rw [this, List.getElem?_eq_getElem h1]
 ·rw [List.getElem?_eq_none h1, List.getElem?_eq_none (by omega)]
theorem a7n {rs ext : List Res} {ν : List Value} (hl : ν.length = (rs ++ ext).length) (b : Nat) : owned (rs ++ ext) ν b <-> owned rs (ν.take rs.length) b \/ ∃ k r x, ext[k]? = some r /\ ν[rs.length + k]? = some x /\ fp r x b := by
 constructor
 ·rintro ⟨k, r, x, h1, h2, h3⟩
  rcases Nat.lt_or_ge k rs.length with h | h
  ·rw [List.getElem?_append_left h] at h1
   exact .inl ⟨k, r, x, h1, K8 h h2, h3⟩
  ·rw [List.getElem?_append_right h] at h1
   exact .inr ⟨k - rs.length, r, x, h1, by rw [show rs.length + (k - rs.length) = k by omega]; exact h2, h3⟩
 ·rintro (⟨k, r, x, h1, h2, h3⟩ | ⟨k, r, x, h1, h2, h3⟩)
  ·have h := (List.getElem?_eq_some_iff.1 h1).1
   exact ⟨k, r, x, by rw [List.getElem?_append_left h]; exact h1, a0i h2, h3⟩
  ·exact ⟨rs.length + k, r, x, by rw [List.getElem?_append_right (by omega), show rs.length + k - rs.length = k by omega]; exact h1, h2, h3⟩
theorem j6.ext {E : Ctx} {rs rs' : List Res} (ex : List Res) {f : Nat} {args : List C} {s : C} (h : j6 E rs f args s rs' []) (hl : rs'.length = rs.length) (hb : rs.all (Res.bdr rs.length) = true) (ha : C.bdL rs.length args = true) : j6 E (rs ++ ex) f args s (rs' ++ ex) [] := by
  intro av ν w vs hR hav hF hD
  have hlen := hR.len
  have hl1 : (ν.take rs.length).length = rs.length := by rw [List.length_take, hlen, List.length_append]; omega
  generalize hν1 : ν.take rs.length = ν1 at hl1
  have hown := fun b => a7n hlen b
  rw [hν1] at hown
  have hx : ∀ b k r x, ex[k]? = some r -> ν[rs.length + k]? = some x -> fp r x b -> ¬ owned rs ν1 b := by
    rintro b k r x h1 h2 h3 ⟨l, q, y, g1, g2, g3⟩
    have hlt := (List.getElem?_eq_some_iff.1 g1).1
    rw [<- hν1] at g2
    exact hR.dis l (rs.length + k) q r y x b (by omega) (by rw [List.getElem?_append_left hlt]; exact g1) (by rw [List.getElem?_append_right (by omega), show rs.length + k - rs.length = k by omega]; exact h1) (a0i g2) h2 g3 h3
  let av' : Nat -> Prop := fun b => OO av (rs ++ ex) ν b /\ ¬ owned rs ν1 b
  have hOO : ∀ b, OO av' rs ν1 b -> OO av (rs ++ ex) ν b := fun b hb => by
    rcases hb with hb | hb
    · exact hb.1
    · exact .inr ((hown b).2 (.inl hb))
  have hRG : RG av' E.own0 E.w0.heap.size ν1 rs w := by
    refine ⟨hl1, fun k r hk => ?_, fun l m q q' y y' b hne h1 h2 h3 h4 => ?_, fun b hb => ?_, fun b hb => ?_, hR.n0⟩
    · have hlt := (List.getElem?_eq_some_iff.1 hk).1
      obtain ⟨x, hx, hok⟩ := hR.res k r (by rw [List.getElem?_append_left hlt]; exact hk)
      refine ⟨x, by rw [<- hν1]; exact K8 hlt hx, ?_⟩
      rw [<- hν1]
      rw [List.all_eq_true] at hb
      exact c2s (hb r (List.mem_of_getElem? hk)) (by rw [hν1]; exact hOO) hok
    · have g1 := (List.getElem?_eq_some_iff.1 h1).1
      have g2 := (List.getElem?_eq_some_iff.1 h2).1
      rw [<- hν1] at h3 h4
      exact hR.dis l m q q' y y' b hne (by rw [List.getElem?_append_left g1]; exact h1) (by rw [List.getElem?_append_left g2]; exact h2) (a0i h3) (a0i h4)
    · obtain ⟨g1, g2, g3⟩ := hR.low b ((hown b).2 (.inl hb))
      exact ⟨g1, fun h => h.2 hb, g3⟩
    · rcases hb.1 with h1 | h1
      · exact hR.av b h1
      · exact (hR.low b h1).1
  have hnav : ∀ b, av b -> ¬ owned rs ν1 b := fun b hb ho => (hR.low b ((hown b).2 (.inl ho))).2.1 hb
  have hD' : j4 ν1 w (OO av' rs ν1) args vs := by
    have := j4.keep (Keeps.sub hOO) (j4.takeν rs.length ha hD)
    rwa [hν1] at this
  refine (h av' ν1 w vs hRG (fun b hb => ⟨.inl (hav b hb), hnav b (hav b hb)⟩) hF hD').mono ?_
  rintro e w' ⟨y, ν', rfl, h1, h2, h3⟩
  have hν' : ν' = ν1 := c3s h2.nu (by rw [h1.len, hl, hl1])
  subst hν'
  have hlen' : ν.length = (rs' ++ ex).length := by rw [hlen, List.length_append, List.length_append, hl]
  have hν1' : ν.take rs'.length = ν' := by rw [hl]; exact hν1
  have hown' := fun b => a7n hlen' b
  rw [hν1', hl] at hown'
  have hnu : U7 [] ν' ν := by rw [<- hν1]; exact U7.take ν _
  have hxo : ∀ b k r x, ex[k]? = some r -> ν[rs.length + k]? = some x -> fp r x b -> owned (rs ++ ex) ν b := fun b k r x g1 g2 g3 => (hown b).2 (.inr ⟨k, r, x, g1, g2, g3⟩)
  have hOO' : ∀ b, OO av (rs' ++ ex) ν b -> OO av' rs' ν' b := fun b hb => by
    rcases hb with hb | hb
    · exact .inl ⟨.inl hb, hnav b hb⟩
    · rcases (hown' b).1 hb with hb | ⟨k, r, x, g1, g2, g3⟩
      · exact .inr hb
      · exact .inl ⟨.inr (hxo b k r x g1 g2 g3), hx b k r x g1 g2 g3⟩
  have hM : Mv (rs ++ ex) ν w [] (rs' ++ ex) ν w' := by
    refine ⟨h2.os, h2.tape, h2.output, h2.size, fun b hb hn => h2.block b hb fun ho => hn ((hown b).2 (.inl ho)), fun b hb => ?_, fun _ _ _ h => h⟩
    rcases (hown' b).1 hb with hb | ⟨k, r, x, g1, g2, g3⟩
    · rcases h2.own b hb with g | g
      · exact .inl ((hown b).2 (.inl g))
      · exact .inr g
    · exact .inl (hxo b k r x g1 g2 g3)
  refine ⟨y, ν, rfl, ⟨hlen', fun k r hk => ?_, fun l m q q' z z' b hne g1 g2 g3 g4 g5 => ?_, fun b hb => ?_, fun b hb => Nat.lt_of_lt_of_le (hR.av b hb) h2.size, Nat.le_trans hR.n0 h2.size⟩, hM, Den.keep (Keeps.sub hOO') (Den.nu hnu (fun k hk => by cases hk) h3)⟩
  · rcases Nat.lt_or_ge k rs'.length with hlt | hge
    · rw [List.getElem?_append_left hlt] at hk
      obtain ⟨x, hx', hok⟩ := h1.res k r hk
      exact ⟨x, hnu k x (fun hk => by cases hk) hx', c3d hnu hOO' hok⟩
    · have hk' : (rs ++ ex)[k]? = some r := by
        rw [List.getElem?_append_right hge] at hk
        rw [List.getElem?_append_right (by omega), <- hl]; exact hk
      obtain ⟨x, hx', hok⟩ := hR.res k r hk'
      refine ⟨x, hx', ?_⟩
      have := hok.mv (O' := OO av (rs' ++ ex) ν) (hM.keeps (av := av)) hM.nu (fun b hf => h2.block b (hR.lt hk' hx' hf) (by
        rw [List.getElem?_append_right hge] at hk
        exact hx b (k - rs'.length) r x hk (by rw [show rs.length + (k - rs'.length) = k by omega]; exact hx') hf))
      rwa [a1Z] at this
  · rcases Nat.lt_or_ge l rs'.length with hl1' | hl1' <;> rcases Nat.lt_or_ge m rs'.length with hm1 | hm1
    · rw [List.getElem?_append_left hl1'] at g1
      rw [List.getElem?_append_left hm1] at g2
      have e1 : ν'[l]? = some z := by rw [<- hν1']; exact K8 hl1' g3
      have e2 : ν'[m]? = some z' := by rw [<- hν1']; exact K8 hm1 g4
      exact h1.dis l m q q' z z' b hne g1 g2 e1 e2 g5
    · rw [List.getElem?_append_left hl1'] at g1
      rw [List.getElem?_append_right hm1] at g2
      have e1 : ν'[l]? = some z := by rw [<- hν1']; exact K8 hl1' g3
      have g4' : ν[rs.length + (m - rs'.length)]? = some z' := by rw [show rs.length + (m - rs'.length) = m by omega]; exact g4
      intro hf
      rcases h2.own b ⟨l, q, z, g1, e1, g5⟩ with ho | ho
      · exact hx b _ q' z' g2 g4' hf ho
      · have := (hR.low b (hxo b _ q' z' g2 g4' hf)).1; omega
    · rw [List.getElem?_append_right hl1'] at g1
      rw [List.getElem?_append_left hm1] at g2
      have e2 : ν'[m]? = some z' := by rw [<- hν1']; exact K8 hm1 g4
      have g3' : ν[rs.length + (l - rs'.length)]? = some z := by rw [show rs.length + (l - rs'.length) = l by omega]; exact g3
      intro hf
      rcases h2.own b ⟨m, q', z', g2, e2, hf⟩ with ho | ho
      · exact hx b _ q z g1 g3' g5 ho
      · have := (hR.low b (hxo b _ q z g1 g3' g5)).1; omega
    · rw [List.getElem?_append_right hl1'] at g1
      rw [List.getElem?_append_right hm1] at g2
      exact hR.dis l m q q' z z' b hne (by rw [List.getElem?_append_right (by omega), <- hl]; exact g1) (by rw [List.getElem?_append_right (by omega), <- hl]; exact g2) g3 g4 g5
  · rcases (hown' b).1 hb with hb | ⟨k, r, x, g1, g2, g3⟩
    · obtain ⟨a1, a2, a3⟩ := h1.low b hb
      exact ⟨a1, fun ha => a2 ⟨.inl ha, hnav b ha⟩, a3⟩
    · obtain ⟨a1, a2, a3⟩ := hR.low b (hxo b k r x g1 g2 g3)
      exact ⟨Nat.lt_of_lt_of_le a1 h2.size, a2, a3⟩
end Go.Proofs.YtogfpjohjphngaaGreatDoor.Eng
namespace Go.Proofs.YtogfpjohjphngaaGreatDoor
set_option linter.all false
open Go Go.RowKit Eng
set_option maxRecDepth 10000
set_option maxHeartbeats 8000000
def rsW (w : Wk) (n : Nms) : List Res := [.box 31 w.enc, .map true (nmE n), .box 140 [.mp 1]]
theorem c0w {E : Ctx} (hP : E.P = Tryz.prog) (ht0 : Tz E) (w : Wk) (n : Nms) (a : Am) (hb : Ab 1073741824 a) :
  j6 E (rsW w n) 86 [a.c, .bp 2 0] (ints (a1B n a).1) (rsW w (a1B n a).2) [] := by
 obtain ⟨P, eff', N, w0, own0, av0, nu0, pk0⟩ := E
 simp only at hP
 subst hP
 refine j6.ofT (eff := eff) ht0 a9o a8I (by exact Nat.le_of_ble_eq_true rfl) fun w' own av ν hν ht => ?_
 have hν0 : ν.length <= 3 := by rw [hν]; exact Nat.le_refl _
 have b0 := hb.1
 have h2 := b8y a hb
 have h1 := fun (E : Ctx) (hP : E.P = Tryz.prog) => b2S hP n a.name (by omega)
 unfold a1B
 generalize J9 n a.name = r at *
 obtain ⟨e1, m⟩ := r
 generalize V3 a = e2 at *
 obtain ⟨name, ⟨x, y, half, t⟩, links⟩ := a
 obtain ⟨arms, walls, parts, slots, gates, walk⟩ := w
 simp only [a3S, l9, TT, II, OA, OB, OC, MM, LL, VV, FF, MG, LG, VG, FG]
 simp only [Am.c, Am.enc, lks, sb, ints, rsW, Wk.enc, ams, wls, pts, sls, gts] at *
 (repeat first | refine uA ?_ | (apply S.exit; exact rfl) | ((with_reducible refine And.intro ?_ ?_); focus first | omega | trivial | exact id | (intros; simp_all <;> omega)) | simp (disch := omega) only [go_sem, Nat.reduceBEq, Nat.reduceAdd, Nat.reduceLeDiff, Int.reduceToNat, Int.reducePow, ww] | (refine uD h2 ?_ ?_ ?_; exact ht; exact rfl))
 refine S.cond rfl (fun hc => ?_) (fun hc => ?_)
 ·rw [if_pos (by simpa using hc)]
  (repeat first | refine uA ?_ | (apply S.exit; exact rfl) | ((with_reducible refine And.intro ?_ ?_); focus first | omega | trivial | exact id | (intros; simp_all <;> omega)) | simp (disch := omega) only [go_sem, Nat.reduceBEq, Nat.reduceAdd, Nat.reduceLeDiff, Int.reduceToNat, Int.reducePow, ww])
  (refine S.done ?_; simp only [x9, u6, go_sem, Nat.reduceBEq, Nat.reduceAdd, Nat.reduceLeDiff, Int.reduceToNat, Int.reducePow]; (repeat (refine ⟨?_, ?_⟩; focus first | trivial | omega | simp)); exact d9.L9 (Imp.refl rfl) (by (repeat first | refine uA ?_ | (refine ⟨?_, ?_⟩; focus first | rfl | trivial | (simp [slot]; done)) | rfl | trivial | simp)) (Nat.le_trans hν0 (by simp)))
 rw [if_neg (by simpa using hc)]
 (repeat first | refine uA ?_ | (apply S.exit; exact rfl) | ((with_reducible refine And.intro ?_ ?_); focus first | omega | trivial | exact id | (intros; simp_all <;> omega)) | simp (disch := omega) only [go_sem, Nat.reduceBEq, Nat.reduceAdd, Nat.reduceLeDiff, Int.reduceToNat, Int.reducePow, ww] | refine l8.t (j6.lift (k := 1) rfl (h1 _ rfl) rfl rfl rfl) ?_)
 (refine S.done ?_; simp only [x9, u6, go_sem, Nat.reduceBEq, Nat.reduceAdd, Nat.reduceLeDiff, Int.reduceToNat, Int.reducePow]; (repeat (refine ⟨?_, ?_⟩; focus first | trivial | omega | simp)); exact d9.L9 (Imp.refl rfl) (by (repeat first | refine uA ?_ | (refine ⟨?_, ?_⟩; focus first | rfl | trivial | (simp [slot]; done)) | rfl | trivial | simp)) (Nat.le_trans hν0 (by simp)))
theorem b9v {E : Ctx} (hP : E.P = Tryz.prog) (ht0 : Tz E) (w : Wk) (n : Nms) (l : List Am) (hn : l.length <= 1073741824) (hb : ∀ x ∈ l, Ab 1073741824 x) :
  j6 E (rsW w n) 89 [ams l, .clo 86 [.bp 2 0]] (ints (C8 a1B n l).1) (rsW w (C8 a1B n l).2) [] := by
 obtain ⟨P, eff', N, w0, own0, av0, nu0, pk0⟩ := E
 simp only at hP
 subst hP
 refine j6.ofT (eff := eff) ht0 a5x a4Y (by exact Nat.le_of_ble_eq_true rfl) fun w' own av ν hν ht => ?_
 have hν0 : ν.length <= 3 := by rw [hν]; exact Nat.le_refl _
 have hcal : callable Tryz.prog 86 = true := by kernel_rfl
 simp only [a1H, l9, TT, II, OA, OB, OC, MM, LL, VV, FF, MG, LG, VG, FG, ams, ints]
 simp only [rsW, Wk.enc, ams, wls, pts, sls, gts]
 (repeat first | refine uA ?_ | (apply S.exit; exact rfl) | ((with_reducible refine And.intro ?_ ?_); focus first | omega | trivial | exact id | (intros; simp_all <;> omega)) | simp (disch := omega) only [go_sem, Nat.reduceBEq, Nat.reduceAdd, Nat.reduceLeDiff, Int.reduceToNat, Int.reducePow, ww, List.length_map])
 refine S.loop (X := Nat × Nms) (fun x => ⟨[(1, .clo 86 [.bp 2 0]), (8, ams l), (9, ints l.length), (10, ints x.1)], rsW w x.2⟩) (fun x => x.1 <= l.length /\ C8 a1B n l = C8 a1B x.2 (l.drop x.1)) (fun x => l.length - x.1) (0, n) ⟨Nat.zero_le _, rfl⟩ (by simp only [rsW, Wk.enc, ams, wls, pts, sls, gts]; exact (by (repeat first | refine uA ?_ | (refine ⟨?_, ?_⟩; focus first | rfl | trivial | (simp [slot]; done)) | rfl | trivial | simp | exact Nat.le_trans hν0 (by simp)))) ?_
 rintro ⟨i, m⟩ ⟨hi, hg⟩
 simp only [ams, ints, rsW, Wk.enc, wls, pts, sls, gts] at hi hg ⊢
 (repeat first | refine uA ?_ | (apply S.exit; exact rfl) | ((with_reducible refine And.intro ?_ ?_); focus first | omega | trivial | exact id | (intros; simp_all <;> omega)) | simp (disch := omega) only [go_sem, Nat.reduceBEq, Nat.reduceAdd, Nat.reduceLeDiff, Int.reduceToNat, Int.reducePow, ww])
 (refine uJ rfl (fun hc => ?_) fun hc => ?_)
 ·have hi' : i < l.length := by omega
  have hgi := List.getElem?_eq_getElem hi'
  generalize l[i] = x at hgi
  have hst := a2a (f := a1B) (s := m) hgi
  have hnx := a2c (f := a1B) (s := m) hgi
  have hs := fun (E : Ctx) (hP : E.P = Tryz.prog) (ht : Tz E) => c0w hP ht w m x (hb x (List.mem_of_getElem? hgi))
  generalize a1B m x = r at *
  obtain ⟨e, m'⟩ := r
  simp only [Am.c, Am.enc, lks, sb, ints, rsW, Wk.enc, ams, wls, pts, sls, gts] at hs hst hnx
  (repeat first | refine uA ?_ | (apply S.exit; exact rfl) | ((with_reducible refine And.intro ?_ ?_); focus first | omega | trivial | exact id | (intros; simp_all <;> omega)) | simp (disch := omega) only [go_sem, Nat.reduceBEq, Nat.reduceAdd, Nat.reduceLeDiff, Int.reduceToNat, Int.reducePow, ww, hgi, Option.map_some, List.length_map, Am.enc, lks, sb, hcal] | refine l8.t (j6.ext _ (hs _ rfl ht) rfl rfl rfl) ?_)
  refine S.cond rfl (fun hc2 => ?_) (fun hc2 => ?_)
  ·rw [hg, hst (by simpa using hc2)]
   (repeat first | refine uA ?_ | (apply S.exit; exact rfl) | ((with_reducible refine And.intro ?_ ?_); focus first | omega | trivial | exact id | (intros; simp_all <;> omega)) | simp (disch := omega) only [go_sem, Nat.reduceBEq, Nat.reduceAdd, Nat.reduceLeDiff, Int.reduceToNat, Int.reducePow, ww])
   (refine S.done ?_; simp only [x9, u6, go_sem, Nat.reduceBEq, Nat.reduceAdd, Nat.reduceLeDiff, Int.reduceToNat, Int.reducePow]; (repeat (refine ⟨?_, ?_⟩; focus first | trivial | omega | simp)); exact d9.L9 (Imp.refl rfl) (by (repeat first | refine uA ?_ | (refine ⟨?_, ?_⟩; focus first | rfl | trivial | (simp [slot]; done)) | rfl | trivial | simp)) (Nat.le_trans hν0 (by simp)))
  ·have hc3 : e = 0 := by simpa using hc2
   (repeat first | refine uA ?_ | (apply S.exit; exact rfl) | ((with_reducible refine And.intro ?_ ?_); focus first | omega | trivial | exact id | (intros; simp_all <;> omega)) | simp (disch := omega) only [go_sem, Nat.reduceBEq, Nat.reduceAdd, Nat.reduceLeDiff, Int.reduceToNat, Int.reducePow, ww])
   refine S.next (x := (i, m)) (i + 1, m') ⟨by simp only; omega, by simp only; rw [hg, hnx hc3]⟩ (by simp only; omega) (by (repeat first | refine uA ?_ | (refine ⟨?_, ?_⟩; focus first | rfl | trivial | (simp [slot]; done)) | rfl | trivial | simp | exact Nat.le_trans hν0 (by simp)))
 ·rw [hg, a2Q (by omega)]
  (repeat first | refine uA ?_ | (apply S.exit; exact rfl) | ((with_reducible refine And.intro ?_ ?_); focus first | omega | trivial | exact id | (intros; simp_all <;> omega)) | simp (disch := omega) only [go_sem, Nat.reduceBEq, Nat.reduceAdd, Nat.reduceLeDiff, Int.reduceToNat, Int.reducePow, ww])
  (refine S.done ?_; simp only [x9, u6, go_sem, Nat.reduceBEq, Nat.reduceAdd, Nat.reduceLeDiff, Int.reduceToNat, Int.reducePow]; (repeat (refine ⟨?_, ?_⟩; focus first | trivial | omega | simp)); exact d9.L9 (Imp.refl rfl) (by (repeat first | refine uA ?_ | (refine ⟨?_, ?_⟩; focus first | rfl | trivial | (simp [slot]; done)) | rfl | trivial | simp)) (Nat.le_trans hν0 (by simp)))
theorem a9l (w : Wk) (hb : Wb 1073741824 w) : FZ 23 [w.c] (ints (a1o w)) := by
 refine q8.of b1f b1m (by exact Nat.le_of_ble_eq_true rfl) fun w' O hw => ?_
 have ht : Tz ⟨Tryz.prog, eff, a2z.ntmps, w', fun _ => False, O, [], []⟩ := tz hw
 obtain ⟨⟨n1, b1⟩, ⟨n2, b2⟩, ⟨n3, b3⟩, ⟨n4, b4⟩, ⟨n5, b5⟩, b6⟩ := hb
 have h1 := fun (E : Ctx) (hP : E.P = Tryz.prog) (ht : Tz E) => b9v hP ht w [] w.arms n1 b1
 have h2 := b6R w.walls n2 b2
 unfold a1o a6Y
 generalize C8 a1B [] w.arms = r1 at *
 obtain ⟨e1, m1⟩ := r1
 have h3 := fun (E : Ctx) (hP : E.P = Tryz.prog) (ht : Tz E) => b7q hP ht m1 w.parts n3 b3
 simp only at h3 ⊢
 generalize C8 a0j m1 w.parts = r3 at *
 obtain ⟨e3, m3⟩ := r3
 have h4 := fun (E : Ctx) (hP : E.P = Tryz.prog) (ht : Tz E) => b7U hP ht m3 w.slots n4 b4
 simp only at h4 ⊢
 generalize C8 a0l m3 w.slots = r4 at *
 obtain ⟨e4, m4⟩ := r4
 have h5 := fun (E : Ctx) (hP : E.P = Tryz.prog) (ht : Tz E) => b8w hP ht m4 w.gates n5 b5
 simp only at h5 ⊢
 generalize C8 a0o m4 w.gates = r5 at *
 obtain ⟨e5, m5⟩ := r5
 generalize G6 J6 w.walls = e2 at *
 simp only
 have h6 := a2K w.walk (b6.mono (by decide))
 have h7 := a3u w.walk (b6.mono (by decide))
 have h8 := a0u w.walk (b6.mono (by decide))
 unfold b2V
 generalize decide w.walk.H7 = q1 at *
 generalize p8 w.walk = q2 at *
 generalize J2 (Nm.j3 w.walk) = s8 at *
 obtain ⟨arms, walls, parts, slots, gates, walk⟩ := w
 simp only [a2z, l9, TT, II, OA, OB, OC, MM, LL, VV, FF, MG, LG, VG, FG] at ht ⊢
 simp only [Wk.c, Wk.enc, rsW, ams, wls, pts, sls, gts, rc, sb, ints] at *
 (repeat first | refine uA ?_ | (apply S.exit; exact rfl) | ((with_reducible refine And.intro ?_ ?_); focus first | omega | trivial | exact id | (intros; simp_all <;> omega)) | simp (disch := omega) only [go_sem, Nat.reduceBEq, Nat.reduceAdd, Nat.reduceLeDiff, Int.reduceToNat, Int.reducePow, ww, List.length_map])
 refine S.cond rfl (fun hc => ?_) (fun hc => ?_)
 ·rw [if_pos (by simp only [Bool.or_eq_true, decide_eq_true_eq] at hc; omega)]
  (repeat first | refine uA ?_ | (apply S.exit; exact rfl) | ((with_reducible refine And.intro ?_ ?_); focus first | omega | trivial | exact id | (intros; simp_all <;> omega)) | simp (disch := omega) only [go_sem, Nat.reduceBEq, Nat.reduceAdd, Nat.reduceLeDiff, Int.reduceToNat, Int.reducePow, ww])
  exact S.done (d9.out rfl (Imp.refl rfl) rfl)
 rw [if_neg (by simp only [Bool.or_eq_false_iff, decide_eq_false_iff_not] at hc; omega)]
 (repeat first | refine uA ?_ | (apply S.exit; exact rfl) | ((with_reducible refine And.intro ?_ ?_); focus first | omega | trivial | exact id | (intros; simp_all <;> omega)) | simp (disch := omega) only [go_sem, Nat.reduceBEq, Nat.reduceAdd, Nat.reduceLeDiff, Int.reduceToNat, Int.reducePow, ww, List.length_map])
 refine S.cond rfl (fun hc => ?_) (fun hc => ?_)
 ·rw [if_pos (by simp only [decide_eq_true_eq] at hc; omega)]
  (repeat first | refine uA ?_ | (apply S.exit; exact rfl) | ((with_reducible refine And.intro ?_ ?_); focus first | omega | trivial | exact id | (intros; simp_all <;> omega)) | simp (disch := omega) only [go_sem, Nat.reduceBEq, Nat.reduceAdd, Nat.reduceLeDiff, Int.reduceToNat, Int.reducePow, ww])
  exact S.done (d9.out rfl (Imp.refl rfl) rfl)
 rw [if_neg (by simp only [decide_eq_false_iff_not] at hc; omega)]
 (repeat first | refine uI ?_ | (apply S.exit; exact rfl) | ((with_reducible refine And.intro ?_ ?_); focus first | omega | trivial | exact id | (intros; simp_all <;> omega)) | simp (disch := omega) only [go_sem, Nat.reduceBEq, Nat.reduceAdd, Nat.reduceLeDiff, Int.reduceToNat, Int.reducePow, ww])
 refine S.D6 [.box 31 [.sl 12 (arms.map Am.enc), .sl 1 (walls.map fun s => [vts s]), .sl 12 (parts.map Pt.enc), .sl 14 (slots.map Sl.enc), .sl 13 (gates.map Gt.enc), .v (.bool walk.neg), .v (.string (bs walk.num)), .v (.string (bs walk.den))], .gone, .box 140 [.mp 1]] ⟨rfl, rfl, True.intro⟩ ?_
 (repeat first | refine uA ?_ | (apply S.exit; exact rfl) | ((with_reducible refine And.intro ?_ ?_); focus first | omega | trivial | exact id | (intros; simp_all <;> omega)) | simp (disch := omega) only [go_sem, Nat.reduceBEq, Nat.reduceAdd, Nat.reduceLeDiff, Int.reduceToNat, Int.reducePow, ww, List.length_map, J5] | refine l8.t (h1 _ rfl ht) ?_ | refine l8.t (j6.lift (k := 1) rfl (h3 _ rfl ht) rfl rfl rfl) ?_ | refine l8.t (j6.lift (k := 1) rfl (h4 _ rfl ht) rfl rfl rfl) ?_ | refine l8.t (j6.lift (k := 1) rfl (h5 _ rfl ht) rfl rfl rfl) ?_ | (refine uD h2 ?_ ?_ ?_; exact tz hw; exact rfl))
 generalize hL : [e1, e2, e3, e4, e5] = L
 have hl5 : L.length = 5 := by rw [<- hL]; rfl
 have e63 : [[C.v (Value.int IntKind.i64 e1)], [C.v (Value.int IntKind.i64 e2)], [C.v (Value.int IntKind.i64 e3)], [C.v (Value.int IntKind.i64 e4)], [C.v (Value.int IntKind.i64 e5)]] = L.map fun e => [C.v (Value.int IntKind.i64 e)] := by rw [<- hL]; rfl
 simp only [e63]
 refine S.loop (X := Nat) (fun i => ⟨[(1, .bp 0 0), (63, .sl 1 (L.map fun e => [.v (.int .i64 e)])), (64, ints 5), (65, ints i)], [.box 31 [.sl 12 (arms.map Am.enc), .sl 1 (walls.map fun s => [vts s]), .sl 12 (parts.map Pt.enc), .sl 14 (slots.map Sl.enc), .sl 13 (gates.map Gt.enc), .v (.bool walk.neg), .v (.string (bs walk.num)), .v (.string (bs walk.den))]]⟩) (fun i => i <= 5 /\ G6 id L = G6 id (L.drop i)) (fun i => 5 - i) 0 ⟨Nat.zero_le _, rfl⟩ (by (repeat first | refine uA ?_ | (refine ⟨?_, ?_⟩; focus first | rfl | trivial | (simp [slot]; done)) | rfl | trivial | simp)) ?_
 rintro i ⟨hi, hg⟩
 simp only [ints] at hi hg ⊢
 (repeat first | refine uA ?_ | (apply S.exit; exact rfl) | ((with_reducible refine And.intro ?_ ?_); focus first | omega | trivial | exact id | (intros; simp_all <;> omega)) | simp (disch := omega) only [go_sem, Nat.reduceBEq, Nat.reduceAdd, Nat.reduceLeDiff, Int.reduceToNat, Int.reducePow, ww])
 (refine uJ rfl (fun hc => ?_) fun hc => ?_)
 ·have hi' : i < L.length := by omega
  have hgi := List.getElem?_eq_getElem hi'
  generalize L[i] = x at hgi
  have hst := a1p (f := id) hgi
  have hnx := a1l (f := id) hgi
  simp only [id] at hst hnx
  (repeat first | refine uA ?_ | (apply S.exit; exact rfl) | ((with_reducible refine And.intro ?_ ?_); focus first | omega | trivial | exact id | (intros; simp_all <;> omega)) | simp (disch := omega) only [go_sem, Nat.reduceBEq, Nat.reduceAdd, Nat.reduceLeDiff, Int.reduceToNat, Int.reducePow, ww, hgi, Option.map_some, List.length_map, hl5])
  refine S.cond rfl (fun hc2 => ?_) (fun hc2 => ?_)
  ·have h0 : x ≠ 0 := by simpa using hc2
   rw [hg, hst h0, if_pos h0]
   (repeat first | refine uA ?_ | (apply S.exit; exact rfl) | ((with_reducible refine And.intro ?_ ?_); focus first | omega | trivial | exact id | (intros; simp_all <;> omega)) | simp (disch := omega) only [go_sem, Nat.reduceBEq, Nat.reduceAdd, Nat.reduceLeDiff, Int.reduceToNat, Int.reducePow, ww])
   exact S.done (d9.out rfl (Imp.refl rfl) rfl)
  ·have hc3 : x = 0 := by simpa using hc2
   (repeat first | refine uA ?_ | (apply S.exit; exact rfl) | ((with_reducible refine And.intro ?_ ?_); focus first | omega | trivial | exact id | (intros; simp_all <;> omega)) | simp (disch := omega) only [go_sem, Nat.reduceBEq, Nat.reduceAdd, Nat.reduceLeDiff, Int.reduceToNat, Int.reducePow, ww])
   refine S.next (i + 1) ⟨by omega, by rw [hg]; exact hnx hc3⟩ (by omega) (by (repeat first | refine uA ?_ | (refine ⟨?_, ?_⟩; focus first | rfl | trivial | (simp [slot]; done)) | rfl | trivial | simp))
 ·rw [hg, a1V (by omega), if_neg (by decide)]
  (repeat first | refine uA ?_ | (apply S.exit; exact rfl) | ((with_reducible refine And.intro ?_ ?_); focus first | omega | trivial | exact id | (intros; simp_all <;> omega)) | simp (disch := omega) only [go_sem, Nat.reduceBEq, Nat.reduceAdd, Nat.reduceLeDiff, Int.reduceToNat, Int.reducePow, ww] | (refine uD h6 ?_ ?_ ?_; exact tz hw; exact rfl) | (refine uD h7 ?_ ?_ ?_; exact tz hw; exact rfl) | (refine uD h8 ?_ ?_ ?_; exact tz hw; exact rfl))
  refine S.cond rfl (fun hc => ?_) (fun hc => ?_)
  ·rw [if_neg (by simp only [Bool.or_eq_true, Bool.not_eq_true', decide_eq_true_eq] at hc; simp only [Bool.and_eq_true, decide_eq_true_eq]; rintro ⟨⟨g7, g8⟩, g9⟩; rcases hc with (hc | hc) | hc <;> first | (rw [hc] at g7; cases g7; done) | (rw [hc] at g8; cases g8; done) | omega)]
   (repeat first | refine uA ?_ | (apply S.exit; exact rfl) | ((with_reducible refine And.intro ?_ ?_); focus first | omega | trivial | exact id | (intros; simp_all <;> omega)) | simp (disch := omega) only [go_sem, Nat.reduceBEq, Nat.reduceAdd, Nat.reduceLeDiff, Int.reduceToNat, Int.reducePow, ww])
   exact S.done (d9.out rfl (Imp.refl rfl) rfl)
  ·rw [if_pos (by simp only [Bool.or_eq_false_iff, Bool.not_eq_false', decide_eq_false_iff_not] at hc; simp only [Bool.and_eq_true, decide_eq_true_eq]; obtain ⟨⟨g7, g8⟩, g9⟩ := hc; exact ⟨⟨g7, g8⟩, by omega⟩)]
   (repeat first | refine uA ?_ | (apply S.exit; exact rfl) | ((with_reducible refine And.intro ?_ ?_); focus first | omega | trivial | exact id | (intros; simp_all <;> omega)) | simp (disch := omega) only [go_sem, Nat.reduceBEq, Nat.reduceAdd, Nat.reduceLeDiff, Int.reduceToNat, Int.reducePow, ww])
   exact S.done (d9.out rfl (Imp.refl rfl) rfl)
end Go.Proofs.YtogfpjohjphngaaGreatDoor
namespace Go.Proofs.YtogfpjohjphngaaGreatDoor
set_option linter.all false
open Go Go.RowKit Eng
set_option maxRecDepth 100000
set_option maxHeartbeats 8000000
theorem b0R (q : Rat) : Nm.ofQ (V6 q) = ⟨false, Nm.enc q.num.natAbs, Nm.enc q.den⟩ := by
 unfold V6
 by_cases h : q.num < 0
 ·rw [if_pos h, b0h]
  simp [h]
 ·rw [if_neg h]
  unfold Nm.ofQ
  rw [decide_eq_false h]
theorem c3q (a : Nm.Rt) (ha : Rb 17179869184 a) : FZ 75 [rc a] (rq (V6 (Nm.j3 a))) := by
 unfold rq
 rw [b0R]
 exact b4u a ha
theorem c2i {k : Nat} {p : Rat} (h : Rb k (Nm.ofQ p)) : Rb k (Nm.ofQ (V6 p)) := by rw [b0R]; exact h
theorem c0o (a : Nm.Rt) (ha : Rb 68719476736 a) : FZ 211 [rc a] (.v (.bool (!M4 a))) := by
 refine q8.of a9y b0w (by exact Nat.le_of_ble_eq_true rfl) fun w O hw => ?_
 have h := a2K a ha
 unfold M4
 generalize decide a.H7 = q at *
 simp only [a4j, l9, TT, II, OA, OB, OC, MM, LL, VV, FF, MG, LG, VG, FG]
 simp only [rc, sb] at *
 (repeat first | refine uA ?_ | (apply S.exit; exact rfl) | ((with_reducible refine And.intro ?_ ?_); focus first | omega | trivial | exact id | (intros; simp_all <;> omega)) | simp (disch := omega) only [go_sem, Nat.reduceBEq, Nat.reduceAdd, Nat.reduceLeDiff, Int.reduceToNat, Int.reducePow, ww] | (refine uD h ?_ ?_ ?_; exact tz hw; exact rfl))
 exact S.done (d9.out rfl (Imp.refl rfl) rfl)
theorem a7M (l : List Nm.Rt) (hl : Rbs 68719476736 l) : FZ 139 [rts l] (.v (.bool (l.all M4))) := by
 refine q8.of b2C b2s (by exact Nat.le_of_ble_eq_true rfl) fun w O hw => ?_
 have h := c0i 211 (by kernel_rfl) (fun a => !M4 a) l (by have := hl.1; omega) (fun a ha => c0o a (hl.2 a ha))
 have e : l.all M4 = !l.any fun a => !M4 a := by rw [List.not_any_eq_all_not]; simp
 rw [e]
 generalize (l.any fun a => !M4 a) = q at *
 simp only [a6q, l9, TT, II, OA, OB, OC, MM, LL, VV, FF, MG, LG, VG, FG]
 simp only [rts] at *
 (repeat first | refine uA ?_ | (apply S.exit; exact rfl) | ((with_reducible refine And.intro ?_ ?_); focus first | omega | trivial | exact id | (intros; simp_all <;> omega)) | simp (disch := omega) only [go_sem, Nat.reduceBEq, Nat.reduceAdd, Nat.reduceLeDiff, Int.reduceToNat, Int.reducePow, ww] | (refine uD h ?_ ?_ ?_; exact tz hw; exact rfl))
 exact S.done (d9.out rfl (Imp.refl rfl) rfl)
theorem c0g (f : Fr) (hf : Fb 17179869184 f) : FZ 136 [f.c] (.v (.bool (Y8 f))) := by
 refine q8.of a7w a6X (by exact Nat.le_of_ble_eq_true rfl) fun w O hw => ?_
 obtain ⟨x, y, half, t⟩ := f
 obtain ⟨b1, b2, b3⟩ := hf
 simp only at b1 b2 b3
 have h1 := a7M _ (Rbs.three (by decide) (b1.mono (m := 68719476736) (by decide)) (b2.mono (m := 68719476736) (by decide)) (b3.mono (m := 68719476736) (by decide)))
 rw [b1K] at h1
 have h4 := a0u t b3
 unfold Y8 a4k
 simp only
 generalize (M4 x && M4 y && M4 t) = q1 at *
 generalize J2 (Nm.j3 t) = n at *
 simp only [a2W, l9, TT, II, OA, OB, OC, MM, LL, VV, FF, MG, LG, VG, FG]
 simp only [Fr.c, Fr.enc, rts, rcs, rc, sb, ints, List.map_cons, List.map_nil] at *
 (repeat first | refine uA ?_ | (apply S.exit; exact rfl) | ((with_reducible refine And.intro ?_ ?_); focus first | omega | trivial | exact id | (intros; simp_all <;> omega)) | simp (disch := omega) only [go_sem, Nat.reduceBEq, Nat.reduceAdd, Nat.reduceLeDiff, Int.reduceToNat, Int.reducePow, ww] | (refine uD h4 ?_ ?_ ?_; exact tz hw; exact rfl) | (refine uE h1 ?_ ?_ ?_ ?_; exact tz hw; exact rfl; focus (repeat' first | exact q9.nil | exact Imp.refl rfl | exact Imp.frz rfl rfl rfl | (refine Imp.R6 rfl rfl ?_ ?_; (focus ((try simp only [List.length_append]); omega)); (focus first | rfl | assumption)) | refine q9.cons ?_ ?_); done))
 have e : (q1 && !(half && !decide (n = 0))) = (q1 && (!half || decide (n = 0))) := by cases q1 <;> cases half <;> simp
 rw [e]
 exact S.done (d9.out rfl (Imp.refl (by rfl)) rfl)
theorem c1v (f : Fr) (hf : Fb 17179869184 f) : FZ 135 [f.c] (.v (.bool (!Y8 f))) := by
 refine q8.of a9h a8Y (by exact Nat.le_of_ble_eq_true rfl) fun w O hw => ?_
 have h := c0g f hf
 generalize Y8 f = q at *
 simp only [a4a, l9, TT, II, OA, OB, OC, MM, LL, VV, FF, MG, LG, VG, FG]
 simp only [Fr.c, Fr.enc, sb] at *
 (repeat first | refine uA ?_ | (apply S.exit; exact rfl) | ((with_reducible refine And.intro ?_ ?_); focus first | omega | trivial | exact id | (intros; simp_all <;> omega)) | simp (disch := omega) only [go_sem, Nat.reduceBEq, Nat.reduceAdd, Nat.reduceLeDiff, Int.reduceToNat, Int.reducePow, ww] | (refine uD h ?_ ?_ ?_; exact tz hw; exact rfl))
 exact S.done (d9.out rfl (Imp.refl rfl) rfl)
theorem c1N (v : Vt) (hv : Vb 68719476736 v) : FZ 138 [v.c] (.v (.bool (!a7P v))) := by
 refine q8.of a8G a8K (by exact Nat.le_of_ble_eq_true rfl) fun w O hw => ?_
 have h := a7M _ (Rbs.two (by decide) hv.1 hv.2)
 rw [b0V] at h
 unfold a7P
 generalize (M4 v.x && M4 v.y) = q at *
 simp only [a3z, l9, TT, II, OA, OB, OC, MM, LL, VV, FF, MG, LG, VG, FG]
 simp only [Vt.c, Vt.enc, rts, rcs, sb, List.map_cons, List.map_nil] at *
 (repeat first | refine uA ?_ | (apply S.exit; exact rfl) | ((with_reducible refine And.intro ?_ ?_); focus first | omega | trivial | exact id | (intros; simp_all <;> omega)) | simp (disch := omega) only [go_sem, Nat.reduceBEq, Nat.reduceAdd, Nat.reduceLeDiff, Int.reduceToNat, Int.reducePow, ww] | (refine uE h ?_ ?_ ?_ ?_; exact tz hw; exact rfl; focus (repeat' first | exact q9.nil | exact Imp.refl rfl | exact Imp.frz rfl rfl rfl | (refine Imp.R6 rfl rfl ?_ ?_; (focus ((try simp only [List.length_append]); omega)); (focus first | rfl | assumption)) | refine q9.cons ?_ ?_); done))
 exact S.done (d9.out rfl (Imp.refl rfl) rfl)
theorem b8C {a : Am} {q : List Nm.Rt} (h : a3o a q = 0) : q.length = a.links.length := by
 unfold a3o at h
 split at h
 ·rename_i h1; exact absurd h h1
 ·split at h
  ·cases h
  ·rename_i h2; exact Classical.not_not.1 h2
theorem c3l (a : Am) (x : Ast) (parts : Nat) (ha : Ab 1073741824 a) (hx : Asb 1073741824 x) (hp : parts <= 1073741824) : FZ 133 [a.c, x.c, .v (.int .i64 (parts : Int))] (ints (a6c a x parts)) := by
 refine q8.of b3i b3S (by exact Nat.le_of_ble_eq_true rfl) fun w O hw => ?_
 have h1 := a7M x.q ⟨by have := hx.1.1; omega, fun r hr => (hx.1.2 r hr).mono (by decide)⟩
 have h2 := a7M x.v ⟨by have := hx.2.1; omega, fun r hr => (hx.2.2 r hr).mono (by decide)⟩
 have h3 := c2r a x.q ha hx.1
 have hln := b8C (a := a) (q := x.q)
 unfold a6c
 generalize a3o a x.q = e at *
 obtain ⟨q, v, power, holds⟩ := x
 simp only at h1 h2 h3 hln ⊢
 generalize q.all M4 = g1 at *
 generalize v.all M4 = g2 at *
 obtain ⟨hvn, hvb⟩ := hx.2
 obtain ⟨name, ⟨bx, by', half, t⟩, links⟩ := a
 obtain ⟨b0, ⟨b1, b2, b3⟩, hn, hb⟩ := ha
 simp only at b0 b1 b2 b3 hn hb hln hvn hvb ⊢
 simp only [a7e, l9, TT, II, OA, OB, OC, MM, LL, VV, FF, MG, LG, VG, FG]
 simp only [Am.c, Am.enc, Ast.c, Ast.enc, lks, rts, sb, ints] at *
 (repeat first | refine uA ?_ | (apply S.exit; exact rfl) | ((with_reducible refine And.intro ?_ ?_); focus first | omega | trivial | exact id | (intros; simp_all <;> omega)) | simp (disch := omega) only [go_sem, Nat.reduceBEq, Nat.reduceAdd, Nat.reduceLeDiff, Int.reduceToNat, Int.reducePow, ww] | (refine uD h1 ?_ ?_ ?_; exact tz hw; exact rfl) | (refine uD h2 ?_ ?_ ?_; exact tz hw; exact rfl))
 refine S.cond rfl (fun hc => ?_) (fun hc => ?_)
 ·rw [if_pos (by cases g1 <;> cases g2 <;> simp_all)]
  (repeat first | refine uA ?_ | (apply S.exit; exact rfl) | ((with_reducible refine And.intro ?_ ?_); focus first | omega | trivial | exact id | (intros; simp_all <;> omega)) | simp (disch := omega) only [go_sem, Nat.reduceBEq, Nat.reduceAdd, Nat.reduceLeDiff, Int.reduceToNat, Int.reducePow, ww])
  exact S.done (d9.out rfl (Imp.refl rfl) rfl)
 rw [if_neg (by cases g1 <;> cases g2 <;> simp_all)]
 (repeat first | refine uA ?_ | (apply S.exit; exact rfl) | ((with_reducible refine And.intro ?_ ?_); focus first | omega | trivial | exact id | (intros; simp_all <;> omega)) | simp (disch := omega) only [go_sem, Nat.reduceBEq, Nat.reduceAdd, Nat.reduceLeDiff, Int.reduceToNat, Int.reducePow, ww] | (refine uD h3 ?_ ?_ ?_; exact tz hw; exact rfl))
 refine S.cond rfl (fun hc => ?_) (fun hc => ?_)
 ·rw [if_pos (by simpa using hc)]
  (repeat first | refine uA ?_ | (apply S.exit; exact rfl) | ((with_reducible refine And.intro ?_ ?_); focus first | omega | trivial | exact id | (intros; simp_all <;> omega)) | simp (disch := omega) only [go_sem, Nat.reduceBEq, Nat.reduceAdd, Nat.reduceLeDiff, Int.reduceToNat, Int.reducePow, ww])
  exact S.done (d9.out rfl (Imp.refl rfl) rfl)
 rw [if_neg (by simpa using hc)]
 have hln := hln (by simpa using hc)
 (repeat first | refine uA ?_ | (apply S.exit; exact rfl) | ((with_reducible refine And.intro ?_ ?_); focus first | omega | trivial | exact id | (intros; simp_all <;> omega)) | simp (disch := omega) only [go_sem, Nat.reduceBEq, Nat.reduceAdd, Nat.reduceLeDiff, Int.reduceToNat, Int.reducePow, ww, List.length_map])
 refine S.cond rfl (fun hc => ?_) (fun hc => ?_)
 ·rw [if_pos (by simp only [Bool.or_eq_true, Bool.not_eq_true', decide_eq_true_eq, decide_eq_false_iff_not] at hc; omega)]
  (repeat first | refine uA ?_ | (apply S.exit; exact rfl) | ((with_reducible refine And.intro ?_ ?_); focus first | omega | trivial | exact id | (intros; simp_all <;> omega)) | simp (disch := omega) only [go_sem, Nat.reduceBEq, Nat.reduceAdd, Nat.reduceLeDiff, Int.reduceToNat, Int.reducePow, ww])
  exact S.done (d9.out rfl (Imp.refl rfl) rfl)
 rw [if_neg (by simp only [Bool.or_eq_false_iff, Bool.not_eq_false', decide_eq_true_eq, decide_eq_false_iff_not] at hc; omega)]
 have hvl : v.length = links.length := by simp only [Bool.or_eq_false_iff, Bool.not_eq_false', decide_eq_true_eq, decide_eq_false_iff_not] at hc; omega
 (repeat first | refine uA ?_ | (apply S.exit; exact rfl) | ((with_reducible refine And.intro ?_ ?_); focus first | omega | trivial | exact id | (intros; simp_all <;> omega)) | simp (disch := omega) only [go_sem, Nat.reduceBEq, Nat.reduceAdd, Nat.reduceLeDiff, Int.reduceToNat, Int.reducePow, ww, List.length_map])
 refine S.loop (X := Nat) (fun i => ⟨[(4, .bp 1 0), (46, lks links), (47, ints links.length), (48, ints i)], [.gone, .box 90 [rts q, rts v, .v (.bool power), ints holds]]⟩) (fun i => i <= links.length /\ G6 a1h (links.zip v) = G6 a1h ((links.zip v).drop i)) (fun i => links.length - i) 0 ⟨Nat.zero_le _, rfl⟩ (by (repeat first | refine uA ?_ | (refine ⟨?_, ?_⟩; focus first | rfl | trivial | (simp [slot]; done)) | rfl | trivial | simp)) ?_
 rintro i ⟨hi, hg⟩
 simp only [lks, ints, rts]
 (repeat first | refine uA ?_ | (apply S.exit; exact rfl) | ((with_reducible refine And.intro ?_ ?_); focus first | omega | trivial | exact id | (intros; simp_all <;> omega)) | simp (disch := omega) only [go_sem, Nat.reduceBEq, Nat.reduceAdd, Nat.reduceLeDiff, Int.reduceToNat, Int.reducePow, ww])
 (refine uJ rfl (fun hc => ?_) fun hc => ?_)
 ·have hi' : i < links.length := by omega
  have hgi := List.getElem?_eq_getElem hi'
  have hgv := List.getElem?_eq_getElem (show i < v.length by omega)
  generalize links[i] = l at hgi
  generalize v[i]'_ = r at hgv
  have hz := b0U hgi hgv
  have hst := a1p (f := a1h) hz
  have hnx := a1l (f := a1h) hz
  have bl := hb l (List.mem_of_getElem? hgi)
  have br := (hvb r (List.mem_of_getElem? hgv)).mono (m := 17179869184) (by decide)
  have o1 := c3q r br
  have o2 := a1n (Nm.ofQ (V6 (Nm.j3 r))) l.speed (c2i (br.fit (by decide))) (bl.2.2.2.1.mono (by decide))
  rw [Nm.G9] at o2
  unfold a1h at hst hnx
  simp only at hst hnx
  generalize Nm.G5 (V6 (Nm.j3 r)) (Nm.j3 l.speed) = n1 at *
  unfold rq at o1
  generalize Nm.ofQ (V6 (Nm.j3 r)) = ar at *
  have hvi : (i : Int) < v.length := by omega
  simp only [rc, sb, ints] at o1 o2
  (repeat first | refine uA ?_ | (apply S.exit; exact rfl) | ((with_reducible refine And.intro ?_ ?_); focus first | omega | trivial | exact id | (intros; simp_all <;> omega)) | simp (disch := omega) only [go_sem, Nat.reduceBEq, Nat.reduceAdd, Nat.reduceLeDiff, Int.reduceToNat, Int.reducePow, ww, hgi, hgv, Option.map_some, List.length_map, Lk.enc, rcs, vts, sb, Int.toNat_natCast] | (refine uD o1 ?_ ?_ ?_; exact tz hw; exact rfl) | (refine uD o2 ?_ ?_ ?_; exact tz hw; exact rfl))
  refine S.cond rfl (fun hc2 => ?_) (fun hc2 => ?_)
  ·have hp : 0 < n1 := by simpa using hc2
   rw [if_pos hp] at hst
   rw [hg, show a1h = fun x : Lk × Nm.Rt => if 0 < Nm.G5 (V6 (Nm.j3 x.2)) (Nm.j3 x.1.speed) then 1 else 0 from rfl, hst (by decide)]
   (repeat first | refine uA ?_ | (apply S.exit; exact rfl) | ((with_reducible refine And.intro ?_ ?_); focus first | omega | trivial | exact id | (intros; simp_all <;> omega)) | simp (disch := omega) only [go_sem, Nat.reduceBEq, Nat.reduceAdd, Nat.reduceLeDiff, Int.reduceToNat, Int.reducePow, ww])
   exact S.done (d9.out rfl (Imp.refl rfl) rfl)
  ·have hp : ¬ 0 < n1 := by simpa using hc2
   rw [if_neg hp] at hnx
   (repeat first | refine uA ?_ | (apply S.exit; exact rfl) | ((with_reducible refine And.intro ?_ ?_); focus first | omega | trivial | exact id | (intros; simp_all <;> omega)) | simp (disch := omega) only [go_sem, Nat.reduceBEq, Nat.reduceAdd, Nat.reduceLeDiff, Int.reduceToNat, Int.reducePow, ww])
   refine S.next (i + 1) ⟨by omega, ?_⟩ (by omega) (by (repeat first | refine uA ?_ | (refine ⟨?_, ?_⟩; focus first | rfl | trivial | (simp [slot]; done)) | rfl | trivial | simp))
   rw [hg, show a1h = fun x : Lk × Nm.Rt => if 0 < Nm.G5 (V6 (Nm.j3 x.2)) (Nm.j3 x.1.speed) then 1 else 0 from rfl, hnx rfl]
 ·rw [hg, a1V (by rw [List.length_zip]; omega)]
  (repeat first | refine uA ?_ | (apply S.exit; exact rfl) | ((with_reducible refine And.intro ?_ ?_); focus first | omega | trivial | exact id | (intros; simp_all <;> omega)) | simp (disch := omega) only [go_sem, Nat.reduceBEq, Nat.reduceAdd, Nat.reduceLeDiff, Int.reduceToNat, Int.reducePow, ww])
  exact S.done (d9.out rfl (Imp.refl rfl) rfl)
end Go.Proofs.YtogfpjohjphngaaGreatDoor
namespace Go.Proofs.YtogfpjohjphngaaGreatDoor
set_option linter.all false
open Go Go.RowKit Eng
set_option maxRecDepth 100000
set_option maxHeartbeats 16000000
theorem c3o (h : List Int) (n : Int) : (a0C (.int .i64 n) (hdE h)).getD (.bool false) = .bool (h.contains n) := by
 rw [c1y]; cases h.contains n <;> rfl
theorem b6K {α : Type} (p : α -> Bool) (l : List α) : l.all p = !l.any fun x => !p x := by rw [List.not_any_eq_all_not]; simp
theorem a8J (w : Wk) (s : Stt) (hb : Wb 1073741824 w) (hs : Stb 1073741824 s) : FZ 38 [w.c, s.c] (ints (O4 w s)) := by
 refine q8.of b0F b1s (by exact Nat.le_of_ble_eq_true rfl) fun w' O hw => ?_
 have hwk := a9l w hb
 obtain ⟨⟨n1, b1⟩, ⟨n2, b2⟩, ⟨n3, b3⟩, n4⟩ := hs
 have hone := fun (a : Am) (x : Ast) (ha : a ∈ w.arms) (hx : x ∈ s.arms) => c3l a x w.parts.length (hb.arms.2 a ha) (b1 x hx) (by have := hb.parts.1; omega)
 have hfr := b7T 135 (by kernel_rfl) (fun f => !Y8 f) s.parts (by omega) (fun f hf => c1v f ⟨(b2 f hf).1.mono (by decide), (b2 f hf).2.1.mono (by decide), (b2 f hf).2.2.mono (by decide)⟩)
 have hvc := b4L 138 (by kernel_rfl) (fun v => !a7P v) s.people (by omega) (fun v hv => c1N v ((b3 v hv).mono (by decide)))
 have m1 := hb.arms.1
 have m2 := hb.parts.1
 have m3 := hb.gates.1
 unfold O4
 rw [b6K Y8, b6K a7P]
 generalize a1o w = e0 at *
 generalize (s.parts.any fun f => !Y8 f) = g1 at *
 generalize (s.people.any fun v => !a7P v) = g2 at *
 obtain ⟨arms, walls, parts, slots, gates, walk⟩ := w
 obtain ⟨tick, sarms, sparts, people, sgates⟩ := s
 simp only at *
 simp only [a5A, l9, TT, II, OA, OB, OC, MM, LL, VV, FF, MG, LG, VG, FG]
 simp only [Wk.c, Wk.enc, Stt.c, Stt.enc, ams, wls, pts, sls, gts, U2, frs, vts, bls, sb, ints] at hwk hfr hvc ⊢
 (repeat first | refine uA ?_ | (apply S.exit; exact rfl) | ((with_reducible refine And.intro ?_ ?_); focus first | omega | trivial | exact id | (intros; simp_all <;> omega)) | simp (disch := omega) only [go_sem, Nat.reduceBEq, Nat.reduceAdd, Nat.reduceLeDiff, Int.reduceToNat, Int.reducePow, ww] | (refine uD hwk ?_ ?_ ?_; exact tz hw; exact rfl))
 refine S.cond rfl (fun hc => ?_) (fun hc => ?_)
 ·rw [if_pos (by simpa using hc)]
  (repeat first | refine uA ?_ | (apply S.exit; exact rfl) | ((with_reducible refine And.intro ?_ ?_); focus first | omega | trivial | exact id | (intros; simp_all <;> omega)) | simp (disch := omega) only [go_sem, Nat.reduceBEq, Nat.reduceAdd, Nat.reduceLeDiff, Int.reduceToNat, Int.reducePow, ww])
  exact S.done (d9.out rfl (Imp.refl rfl) rfl)
 rw [if_neg (by simpa using hc)]
 (repeat first | refine uA ?_ | (apply S.exit; exact rfl) | ((with_reducible refine And.intro ?_ ?_); focus first | omega | trivial | exact id | (intros; simp_all <;> omega)) | simp (disch := omega) only [go_sem, Nat.reduceBEq, Nat.reduceAdd, Nat.reduceLeDiff, Int.reduceToNat, Int.reducePow, ww, List.length_map])
 refine S.cond rfl (fun hc => ?_) (fun hc => ?_)
 ·rw [if_pos (by simp only [decide_eq_true_eq] at hc; omega)]
  (repeat first | refine uA ?_ | (apply S.exit; exact rfl) | ((with_reducible refine And.intro ?_ ?_); focus first | omega | trivial | exact id | (intros; simp_all <;> omega)) | simp (disch := omega) only [go_sem, Nat.reduceBEq, Nat.reduceAdd, Nat.reduceLeDiff, Int.reduceToNat, Int.reducePow, ww])
  exact S.done (d9.out rfl (Imp.refl rfl) rfl)
 rw [if_neg (by simp only [decide_eq_false_iff_not] at hc; omega)]
 (repeat first | refine uA ?_ | (apply S.exit; exact rfl) | ((with_reducible refine And.intro ?_ ?_); focus first | omega | trivial | exact id | (intros; simp_all <;> omega)) | simp (disch := omega) only [go_sem, Nat.reduceBEq, Nat.reduceAdd, Nat.reduceLeDiff, Int.reduceToNat, Int.reducePow, ww, List.length_map])
 refine S.cond rfl (fun hc => ?_) (fun hc => ?_)
 ·rw [if_pos (by simp only [Bool.or_eq_true, Bool.not_eq_true', decide_eq_true_eq, decide_eq_false_iff_not] at hc; omega)]
  (repeat first | refine uA ?_ | (apply S.exit; exact rfl) | ((with_reducible refine And.intro ?_ ?_); focus first | omega | trivial | exact id | (intros; simp_all <;> omega)) | simp (disch := omega) only [go_sem, Nat.reduceBEq, Nat.reduceAdd, Nat.reduceLeDiff, Int.reduceToNat, Int.reducePow, ww])
  exact S.done (d9.out rfl (Imp.refl rfl) rfl)
 have hls : sarms.length = arms.length := by simp only [Bool.or_eq_false_iff, Bool.not_eq_false', decide_eq_true_eq, decide_eq_false_iff_not] at hc; omega
 rw [if_neg (by simp only [Bool.or_eq_false_iff, Bool.not_eq_false', decide_eq_true_eq, decide_eq_false_iff_not] at hc; omega)]
 (repeat first | refine uA ?_ | (apply S.exit; exact rfl) | ((with_reducible refine And.intro ?_ ?_); focus first | omega | trivial | exact id | (intros; simp_all <;> omega)) | simp (disch := omega) only [go_sem, Nat.reduceBEq, Nat.reduceAdd, Nat.reduceLeDiff, Int.reduceToNat, Int.reducePow, ww, List.length_map])
 refine S.loop (X := Nat × List Int) (fun x => ⟨[(2, .bp 0 0), (3, .bp 1 0), (6, .mp 2), (56, U2 sarms), (57, ints sarms.length), (58, ints x.1)], [.box 31 [ams arms, wls walls, pts parts, sls slots, gts gates, .v (.bool walk.neg), sb walk.num, sb walk.den], .box 37 [ints tick, U2 sarms, frs sparts, vts people, bls sgates], .map false (hdE x.2)]⟩)
  (fun x => x.1 <= sarms.length /\ C8 (a1P parts.length) [] (arms.zip sarms) = C8 (a1P parts.length) x.2 ((arms.zip sarms).drop x.1)) (fun x => sarms.length - x.1) (0, []) ⟨Nat.zero_le _, rfl⟩ (by (repeat first | refine uA ?_ | (refine ⟨?_, ?_⟩; focus first | rfl | trivial | (simp [slot]; done)) | rfl | trivial | simp)) ?_
 rintro ⟨i, h⟩ ⟨hi, hg⟩
 simp only [ams, wls, pts, sls, gts, U2, frs, vts, bls, sb, ints] at hi hg ⊢
 (repeat first | refine uA ?_ | (apply S.exit; exact rfl) | ((with_reducible refine And.intro ?_ ?_); focus first | omega | trivial | exact id | (intros; simp_all <;> omega)) | simp (disch := omega) only [go_sem, Nat.reduceBEq, Nat.reduceAdd, Nat.reduceLeDiff, Int.reduceToNat, Int.reducePow, ww])
 (refine uJ rfl (fun hc => ?_) fun hc => ?_)
 ·have hgx := List.getElem?_eq_getElem (show i < sarms.length by omega)
  have hga := List.getElem?_eq_getElem (show i < arms.length by omega)
  generalize sarms[i]'_ = x at hgx
  generalize arms[i]'_ = a at hga
  have hz := b0U hga hgx
  have hst := a2a (f := a1P parts.length) (s := h) hz
  have hnx := a2c (f := a1P parts.length) (s := h) hz
  have ho := hone a x (List.mem_of_getElem? hga) (List.mem_of_getElem? hgx)
  have hlk := c3o h x.holds
  have hpt := c2z h x.holds
  have hai : (i : Int) < arms.length := by omega
  have hv : a1P parts.length h (a, x) = if a6c a x parts.length ≠ 0 then (a6c a x parts.length, h) else if (decide (0 <= x.holds) && h.contains x.holds) = true then (10, h) else (0, a7L h x.holds) := rfl
  rw [hv] at hst hnx
  clear hv
  generalize a6c a x parts.length = e1 at *
  generalize h.contains x.holds = c1 at *
  simp only [Am.c, Am.enc, Ast.c, Ast.enc, lks, rts, sb, ints] at ho
  (repeat first | refine uA ?_ | (apply S.exit; exact rfl) | ((with_reducible refine And.intro ?_ ?_); focus first | omega | trivial | exact id | (intros; simp_all <;> omega)) | simp (disch := omega) only [go_sem, Nat.reduceBEq, Nat.reduceAdd, Nat.reduceLeDiff, Int.reduceToNat, Int.reducePow, ww, hga, hgx, Option.map_some, List.length_map, Am.enc, Ast.enc, lks, rts, sb, ints, Int.toNat_natCast] | (refine uD ho ?_ ?_ ?_; exact tz hw; exact rfl))
  refine S.cond rfl (fun hc2 => ?_) (fun hc2 => ?_)
  ·have h0 : e1 ≠ 0 := by simpa using hc2
   rw [if_pos h0] at hst
   rw [hg, hst h0, if_pos h0]
   (repeat first | refine uA ?_ | (apply S.exit; exact rfl) | ((with_reducible refine And.intro ?_ ?_); focus first | omega | trivial | exact id | (intros; simp_all <;> omega)) | simp (disch := omega) only [go_sem, Nat.reduceBEq, Nat.reduceAdd, Nat.reduceLeDiff, Int.reduceToNat, Int.reducePow, ww])
   exact S.done (d9.out rfl (Imp.refl rfl) rfl)
  have h0 : e1 = 0 := by simpa using hc2
  rw [if_neg (by simp [h0])] at hst hnx
  (repeat first | refine uA ?_ | (apply S.exit; exact rfl) | ((with_reducible refine And.intro ?_ ?_); focus first | omega | trivial | exact id | (intros; simp_all <;> omega)) | simp (disch := omega) only [go_sem, Nat.reduceBEq, Nat.reduceAdd, Nat.reduceLeDiff, Int.reduceToNat, Int.reducePow, ww, hlk])
  refine S.cond rfl (fun hc3 => ?_) (fun hc3 => ?_)
  ·rw [if_pos hc3] at hst
   rw [hg, hst (by simp), if_pos (by simp)]
   (repeat first | refine uA ?_ | (apply S.exit; exact rfl) | ((with_reducible refine And.intro ?_ ?_); focus first | omega | trivial | exact id | (intros; simp_all <;> omega)) | simp (disch := omega) only [go_sem, Nat.reduceBEq, Nat.reduceAdd, Nat.reduceLeDiff, Int.reduceToNat, Int.reducePow, ww])
   exact S.done (d9.out rfl (Imp.refl rfl) rfl)
  ·rw [if_neg (by rw [hc3]; decide)] at hnx
   (repeat first | refine uA ?_ | (apply S.exit; exact rfl) | ((with_reducible refine And.intro ?_ ?_); focus first | omega | trivial | exact id | (intros; simp_all <;> omega)) | simp (disch := omega) only [go_sem, Nat.reduceBEq, Nat.reduceAdd, Nat.reduceLeDiff, Int.reduceToNat, Int.reducePow, ww, hpt])
   refine S.next (x := (i, h)) (i + 1, a7L h x.holds) ⟨by simp only; omega, by simp only; rw [hg, hnx rfl]⟩ (by simp only; omega) (by (repeat first | refine uA ?_ | (refine ⟨?_, ?_⟩; focus first | rfl | trivial | (simp [slot]; done)) | rfl | trivial | simp))
 ·rw [hg, a2Q (by rw [List.length_zip]; omega), if_neg (by simp)]
  (repeat first | refine uA ?_ | (apply S.exit; exact rfl) | ((with_reducible refine And.intro ?_ ?_); focus first | omega | trivial | exact id | (intros; simp_all <;> omega)) | simp (disch := omega) only [go_sem, Nat.reduceBEq, Nat.reduceAdd, Nat.reduceLeDiff, Int.reduceToNat, Int.reducePow, ww] | (refine uD hfr ?_ ?_ ?_; exact tz hw; exact rfl) | (refine uD hvc ?_ ?_ ?_; exact tz hw; exact rfl))
  refine S.cond rfl (fun hc => ?_) (fun hc => ?_)
  ·rw [if_neg (by cases g1 <;> cases g2 <;> simp_all)]
   (repeat first | refine uA ?_ | (apply S.exit; exact rfl) | ((with_reducible refine And.intro ?_ ?_); focus first | omega | trivial | exact id | (intros; simp_all <;> omega)) | simp (disch := omega) only [go_sem, Nat.reduceBEq, Nat.reduceAdd, Nat.reduceLeDiff, Int.reduceToNat, Int.reducePow, ww])
   exact S.done (d9.out rfl (Imp.refl rfl) rfl)
  ·rw [if_pos (by cases g1 <;> cases g2 <;> simp_all)]
   (repeat first | refine uA ?_ | (apply S.exit; exact rfl) | ((with_reducible refine And.intro ?_ ?_); focus first | omega | trivial | exact id | (intros; simp_all <;> omega)) | simp (disch := omega) only [go_sem, Nat.reduceBEq, Nat.reduceAdd, Nat.reduceLeDiff, Int.reduceToNat, Int.reducePow, ww])
   exact S.done (d9.out rfl (Imp.refl rfl) rfl)
end Go.Proofs.YtogfpjohjphngaaGreatDoor
namespace Go.Proofs.YtogfpjohjphngaaGreatDoor
set_option linter.all false
open Go Go.RowKit Eng
set_option maxRecDepth 10000
set_option maxHeartbeats 4000000
def S9 (w : Wk) (s : Stt) (p q : Int) : Int := if O4 w s ≠ 0 then O4 w s else if p < 0 \/ (w.parts.length : Int) <= p \/ q < 0 \/ (w.slots.length : Int) <= q then 1 else 0
theorem b9Y (w : Wk) (s : Stt) (p q : Int) (hwb : Wb 1073741824 w) (hs : Stb 1073741824 s) :
  FZ 70 [w.c, s.c, ints p, ints q] (ints (S9 w s p q)) := by
 refine q8.of b2Q b2I (by exact Nat.le_of_ble_eq_true rfl) fun w' O hw => ?_
 have hck := a8J w s hwb hs
 unfold S9
 generalize O4 w s = e at *
 have n1 := hwb.parts.1
 have n2 := hwb.slots.1
 obtain ⟨arms, walls, parts, slots, gates, walk⟩ := w
 obtain ⟨tick, sarms, sparts, people, sgates⟩ := s
 simp only at n1 n2 ⊢
 simp only [a6h, l9, TT, II, OA, OB, OC, MM, LL, VV, FF, MG, LG, VG, FG]
 simp only [Wk.c, Wk.enc, Stt.c, Stt.enc, ams, wls, pts, sls, gts, U2, frs, vts, bls, sb, ints] at hck ⊢
 (repeat first | refine uA ?_ | (apply S.exit; exact rfl) | ((with_reducible refine And.intro ?_ ?_); focus first | omega | trivial | exact id | (intros; simp_all <;> omega)) | simp (disch := omega) only [go_sem, Nat.reduceBEq, Nat.reduceAdd, Nat.reduceLeDiff, Int.reduceToNat, Int.reducePow, ww] | (refine uD hck ?_ ?_ ?_; exact tz hw; exact rfl))
 refine S.cond rfl (fun hc => ?_) (fun hc => ?_)
 ·rw [if_pos (by simpa using hc)]
  (repeat first | refine uA ?_ | (apply S.exit; exact rfl) | ((with_reducible refine And.intro ?_ ?_); focus first | omega | trivial | exact id | (intros; simp_all <;> omega)) | simp (disch := omega) only [go_sem, Nat.reduceBEq, Nat.reduceAdd, Nat.reduceLeDiff, Int.reduceToNat, Int.reducePow, ww])
  exact S.done (d9.out rfl (Imp.refl rfl) rfl)
 rw [if_neg (by simpa using hc)]
 (repeat first | refine uA ?_ | (apply S.exit; exact rfl) | ((with_reducible refine And.intro ?_ ?_); focus first | omega | trivial | exact id | (intros; simp_all <;> omega)) | simp (disch := omega) only [go_sem, Nat.reduceBEq, Nat.reduceAdd, Nat.reduceLeDiff, Int.reduceToNat, Int.reducePow, ww, List.length_map])
 (refine uJ rfl (fun hc => ?_) fun hc => ?_)
 ·rw [if_pos (by omega)]
  (repeat first | refine uA ?_ | (apply S.exit; exact rfl) | ((with_reducible refine And.intro ?_ ?_); focus first | omega | trivial | exact id | (intros; simp_all <;> omega)) | simp (disch := omega) only [go_sem, Nat.reduceBEq, Nat.reduceAdd, Nat.reduceLeDiff, Int.reduceToNat, Int.reducePow, ww])
  exact S.done (d9.out rfl (Imp.refl rfl) rfl)
 ·rw [if_neg (by omega)]
  (repeat first | refine uA ?_ | (apply S.exit; exact rfl) | ((with_reducible refine And.intro ?_ ?_); focus first | omega | trivial | exact id | (intros; simp_all <;> omega)) | simp (disch := omega) only [go_sem, Nat.reduceBEq, Nat.reduceAdd, Nat.reduceLeDiff, Int.reduceToNat, Int.reducePow, ww])
  exact S.done (d9.out rfl (Imp.refl rfl) rfl)
end Go.Proofs.YtogfpjohjphngaaGreatDoor
namespace Go.Proofs.YtogfpjohjphngaaGreatDoor
set_option linter.all false
open Go Go.RowKit Eng
set_option maxRecDepth 10000
set_option maxHeartbeats 4000000
def c0T : Sl := ⟨[], a1u, ⟨false, [], []⟩⟩
def c3e : Pt := ⟨[], [], a1u⟩
def Q5 (w : Wk) (s : Stt) (p q : Nat) : Rat := a1X (s.parts.getD p a1u) (w.slots.getD q c0T).frame (w.parts.getD p c3e).shape
def a9c (w : Wk) (s : Stt) (p q : Int) : Nm.Rt := if S9 w s p q ≠ 0 then ⟨false, [], []⟩ else Nm.ofQ (Q5 w s p.toNat q.toNat)
theorem b8V (f g : Fr) {l : List Vt} {i : Nat} {c : Vt} (h : l[i]? = some c) : a1X f g (l.take (i + 1)) = a0a (a1X f g (l.take i)) (a1e f g c) := by
 unfold a1X
 rw [List.take_succ, h]
 simp
theorem a4V {w : Wk} {s : Stt} (h : O4 w s = 0) : s.parts.length = w.parts.length := by
 unfold O4 at h
 split at h
 ·rename_i h1; exact absurd h h1
 ·split at h
  ·cases h
  ·split at h
   ·cases h
   ·omega
theorem b6t {w : Wk} {s : Stt} {p q : Int} (h : S9 w s p q = 0) : O4 w s = 0 /\ 0 <= p /\ p < w.parts.length /\ 0 <= q /\ q < w.slots.length := by
 unfold S9 at h
 split at h
 ·rename_i h1; exact absurd h h1
 ·split at h
  ·cases h
  ·refine ⟨Classical.not_not.1 (by assumption), ?_⟩
   omega
theorem a7C : rc ⟨false, [], []⟩ = .agg [.v (.bool false), .v (.string ⟨#[]⟩), .v (.string ⟨#[]⟩)] := rfl
theorem b2U (w : Wk) (s : Stt) (p q : Int) (hwb : Wb 1048576 w) (hs : Stb 1048576 s) :
  FZ 13 [w.c, s.c, ints p, ints q] (.tup [rc (a9c w s p q), ints (S9 w s p q)]) := by
 refine q8.of b5Z b5z (by exact Nat.le_of_ble_eq_true rfl) fun w' O hw => ?_
 have hck := b9Y w s p q (hwb.mono (by decide)) (hs.mono (by decide))
 unfold a9c
 by_cases hd : S9 w s p q = 0
 ·rw [hd] at hck ⊢
  rw [if_neg (by simp)]
  obtain ⟨hst, p0, p1, q0, q1⟩ := b6t hd
  have hpl := a4V hst
  obtain ⟨p, rfl⟩ : ∃ n : Nat, p = n := ⟨p.toNat, by omega⟩
  obtain ⟨q, rfl⟩ : ∃ n : Nat, q = n := ⟨q.toNat, by omega⟩
  rw [Int.toNat_natCast, Int.toNat_natCast]
  have gp := List.getElem?_eq_getElem (show p < w.parts.length by omega)
  have gs := List.getElem?_eq_getElem (show q < w.slots.length by omega)
  have gf := List.getElem?_eq_getElem (show p < s.parts.length by omega)
  have e : Q5 w s p q = a1X (s.parts[p]'(by omega)) (w.slots[q]'(by omega)).frame (w.parts[p]'(by omega)).shape := by
   unfold Q5
   rw [List.getD_eq_getElem?_getD, List.getD_eq_getElem?_getD, List.getD_eq_getElem?_getD, gp, gs, gf]
   rfl
  rw [e]
  clear e hd hst
  generalize w.parts[p]'(_) = pt at gp
  generalize w.slots[q]'(_) = sl at gs
  generalize s.parts[p]'(_) = f at gf
  have bp := hwb.parts.2 pt (List.mem_of_getElem? gp)
  have bs' := hwb.slots.2 sl (List.mem_of_getElem? gs)
  have bf := hs.parts.2 f (List.mem_of_getElem? gf)
  have hz := a5Y 0 (by decide) (by decide)
  rw [show ((0 : Int) : Rat) = 0 from rfl] at hz
  have n1 := hwb.parts.1
  have n2 := hwb.slots.1
  have n3 := hs.parts.1
  obtain ⟨pn, shape, grasp⟩ := pt
  obtain ⟨sn, g, within⟩ := sl
  obtain ⟨arms, walls, parts, slots, gates, walk⟩ := w
  obtain ⟨tick, sarms, sparts, people, sgates⟩ := s
  simp only at gp gs gf bp bs' p1 q1 hpl n1 n2 n3 ⊢
  obtain ⟨_, ⟨hn, hb⟩, _⟩ := bp
  obtain ⟨_, bg, _⟩ := bs'
  simp only at hn hb bg
  have hput := fun c hc => c0V f c (bf.1.mono (by decide)) (bf.2.1.mono (by decide)) (bf.2.2.mono (by decide)) (hb c hc).1 (hb c hc).2
  have hputg := fun c hc => c0V g c (bg.1.mono (by decide)) (bg.2.1.mono (by decide)) (bg.2.2.mono (by decide)) (hb c hc).1 (hb c hc).2
  have hrp := fun c hc => b0y (k := 1048576) (by decide) bf (hb c hc)
  have hrg := fun c hc => b0y (k := 1048576) (by decide) bg (hb c hc)
  have hro := fun c hc => b6s (k := 1048576) (by decide) bf bg (hb c hc)
  have hrq := fun i => b9R (k := 1048576) (by decide) bf bg (shape.take i) (fun c hc => hb c (List.mem_of_mem_take hc))
  have hoc : ∀ c, a1e f g c = a0a (V6 (a3c f c - a3c g c)) (V6 (a3d f c - a3d g c)) := fun _ => rfl
  have hq0 : a1X f g (shape.take 0) = 0 := rfl
  obtain ⟨fx, fy, fh, ft⟩ := f
  obtain ⟨gx, gy, gh, gt⟩ := g
  simp only [a4X, l9, TT, II, OA, OB, OC, MM, LL, VV, FF, MG, LG, VG, FG]
  simp only [Wk.c, Wk.enc, Stt.c, Stt.enc, ams, wls, pts, sls, gts, U2, frs, vts, bls, rq, rc, sb, ints] at hck hz ⊢
  (repeat first | refine uA ?_ | (apply S.exit; exact rfl) | ((with_reducible refine And.intro ?_ ?_); focus first | omega | trivial | exact id | (intros; simp_all <;> omega)) | simp (disch := omega) only [go_sem, Nat.reduceBEq, Nat.reduceAdd, Nat.reduceLeDiff, Int.reduceToNat, Int.reducePow, ww] | (refine uD hck ?_ ?_ ?_; exact tz hw; exact rfl))
  refine S.cond rfl (fun hc => by simp at hc) (fun hc => ?_)
  (repeat first | refine uA ?_ | (apply S.exit; exact rfl) | ((with_reducible refine And.intro ?_ ?_); focus first | omega | trivial | exact id | (intros; simp_all <;> omega)) | simp (disch := omega) only [go_sem, Nat.reduceBEq, Nat.reduceAdd, Nat.reduceLeDiff, Int.reduceToNat, Int.reducePow, ww, List.length_map, gp, Option.map_some, Pt.enc, vts, Int.toNat_natCast] | (refine uD hz ?_ ?_ ?_; exact tz hw; exact rfl))
  refine S.loop (X := Nat) (fun i => ⟨[(2, ints p), (3, ints q), (4, .bp 0 0), (5, .bp 1 0), (8, .bp 2 0), (11, .bp 3 0), (30, vts shape), (31, ints shape.length), (32, ints i)], [.box 31 [ams arms, wls walls, pts parts, sls slots, gts gates, .v (.bool walk.neg), sb walk.num, sb walk.den], .box 37 [ints tick, U2 sarms, frs sparts, vts people, bls sgates], .box 29 [.v (.bool false), .v (.string ⟨#[]⟩), .v (.string ⟨#[]⟩)], .box 29 (rcs (Nm.ofQ (a1X ⟨fx, fy, fh, ft⟩ ⟨gx, gy, gh, gt⟩ (shape.take i))))]⟩) (fun i => i <= shape.length) (fun i => shape.length - i) 0 (Nat.zero_le _) (by simp only [hq0, rcs, sb]; exact (by (repeat first | refine uA ?_ | (refine ⟨?_, ?_⟩; focus first | rfl | trivial | (simp [slot]; done)) | rfl | trivial | simp))) ?_
  intro i hi
  simp only [ams, wls, pts, sls, gts, U2, frs, vts, bls, rcs, sb, ints] at hi ⊢
  (repeat first | refine uA ?_ | (apply S.exit; exact rfl) | ((with_reducible refine And.intro ?_ ?_); focus first | omega | trivial | exact id | (intros; simp_all <;> omega)) | simp (disch := omega) only [go_sem, Nat.reduceBEq, Nat.reduceAdd, Nat.reduceLeDiff, Int.reduceToNat, Int.reducePow, ww])
  (refine uJ rfl (fun hc => ?_) fun hc => ?_)
  ·have hi' : i < shape.length := by omega
   have hgi := List.getElem?_eq_getElem hi'
   generalize shape[i] = c at hgi
   have hc' := List.mem_of_getElem? hgi
   have hsu := b8V ⟨fx, fy, fh, ft⟩ ⟨gx, gy, gh, gt⟩ hgi
   have o1 := hput c hc'
   have o2 := hputg c hc'
   obtain ⟨r1, r2⟩ := hrp c hc'
   obtain ⟨r3, r4⟩ := hrg c hc'
   have r5 := hro c hc'
   have r6 := hrq i
   have e := hoc c
   generalize a1X ⟨fx, fy, fh, ft⟩ ⟨gx, gy, gh, gt⟩ (shape.take i) = acc at hsu r6 ⊢
   clear hput hputg hrp hrg hro hrq hoc
   generalize a1e ⟨fx, fy, fh, ft⟩ ⟨gx, gy, gh, gt⟩ c = oc at *
   generalize a3c ⟨fx, fy, fh, ft⟩ c = a1 at *
   generalize a3d ⟨fx, fy, fh, ft⟩ c = a2 at *
   generalize a3c ⟨gx, gy, gh, gt⟩ c = b1 at *
   generalize a3d ⟨gx, gy, gh, gt⟩ c = b2 at *
   have o3 := b3N (Nm.ofQ a1) (Nm.ofQ a2) (Nm.ofQ b1) (Nm.ofQ b2) (r1.mono (by decide)) (r2.mono (by decide)) (r3.mono (by decide)) (r4.mono (by decide))
   simp only [Nm.G9] at o3
   have s1 := Z8 r1 r3
   have s2 := Z8 r2 r4
   have o4 := b4u (Nm.ofQ (a1 - b1)) (s1.mono (by decide))
   have o5 := b4u (Nm.ofQ (a2 - b2)) (s2.mono (by decide))
   rw [Nm.G9] at o4 o5
   rw [<- b0R] at o4 o5
   have s3 := a7H s1
   have s4 := a7H s2
   have o6 := b3v (Nm.ofQ (V6 (a1 - b1))) (Nm.ofQ (V6 (a2 - b2))) (s3.mono (by decide)) (s4.mono (by decide))
   rw [Nm.G9, Nm.G9, <- e] at o6
   have o7 := b3v (Nm.ofQ acc) (Nm.ofQ oc) (r6.mono (by decide)) (r5.mono (by decide))
   rw [Nm.G9, Nm.G9, <- hsu] at o7
   unfold vq at o1 o2 o3
   unfold rq at o6 o7
   generalize hz1 : Nm.ofQ (a1X ⟨fx, fy, fh, ft⟩ ⟨gx, gy, gh, gt⟩ (shape.take (i + 1))) = z1 at *
   generalize Nm.ofQ (V6 (a1 - b1)) = z2 at *
   generalize Nm.ofQ (V6 (a2 - b2)) = z3 at *
   generalize Nm.ofQ (a1 - b1) = z4 at *
   generalize Nm.ofQ (a2 - b2) = z5 at *
   generalize Nm.ofQ a1 = z6 at *
   generalize Nm.ofQ a2 = z7 at *
   generalize Nm.ofQ b1 = z8 at *
   generalize Nm.ofQ b2 = z9 at *
   generalize Nm.ofQ acc = z10 at *
   generalize Nm.ofQ oc = z11 at *
   simp only [Fr.c, Fr.enc, Vt.c, Vt.enc, vc, rc, sb] at o1 o2 o3 o4 o5 o6 o7
   (repeat first | refine uA ?_ | (apply S.exit; exact rfl) | ((with_reducible refine And.intro ?_ ?_); focus first | omega | trivial | exact id | (intros; simp_all <;> omega)) | simp (disch := omega) only [go_sem, Nat.reduceBEq, Nat.reduceAdd, Nat.reduceLeDiff, Int.reduceToNat, Int.reducePow, ww, hgi, gf, gs, Option.map_some, List.length_map, Vt.enc, Fr.enc, Sl.enc, sb, Int.toNat_natCast] | (refine uD o1 ?_ ?_ ?_; exact tz hw; exact rfl) | (refine uD o2 ?_ ?_ ?_; exact tz hw; exact rfl) | (refine uD o3 ?_ ?_ ?_; exact tz hw; exact rfl) | (refine uD o4 ?_ ?_ ?_; exact tz hw; exact rfl) | (refine uD o5 ?_ ?_ ?_; exact tz hw; exact rfl) | (refine uD o6 ?_ ?_ ?_; exact tz hw; exact rfl) | (refine uD o7 ?_ ?_ ?_; exact tz hw; exact rfl))
   refine S.next (i + 1) (by omega) (by omega) (by simp only [hz1, rcs, sb]; exact (by (repeat first | refine uA ?_ | (refine ⟨?_, ?_⟩; focus first | rfl | trivial | (simp [slot]; done)) | rfl | trivial | simp)))
  ·have hi' : i = shape.length := by omega
   subst hi'
   rw [List.take_length]
   (repeat first | refine uA ?_ | (apply S.exit; exact rfl) | ((with_reducible refine And.intro ?_ ?_); focus first | omega | trivial | exact id | (intros; simp_all <;> omega)) | simp (disch := omega) only [go_sem, Nat.reduceBEq, Nat.reduceAdd, Nat.reduceLeDiff, Int.reduceToNat, Int.reducePow, ww])
   (refine S.done ?_; simp only [x9, u6, go_sem, Nat.reduceBEq, Nat.reduceAdd, Nat.reduceLeDiff, Int.reduceToNat, Int.reducePow]; (repeat (refine ⟨?_, ?_⟩; focus first | trivial | omega | simp)); exact d9.out rfl (Imp.refl rfl) rfl)
 ·rw [if_pos hd]
  generalize S9 w s p q = e at *
  obtain ⟨arms, walls, parts, slots, gates, walk⟩ := w
  obtain ⟨tick, sarms, sparts, people, sgates⟩ := s
  rw [a7C]
  simp only [a4X, l9, TT, II, OA, OB, OC, MM, LL, VV, FF, MG, LG, VG, FG]
  simp only [Wk.c, Wk.enc, Stt.c, Stt.enc, ams, wls, pts, sls, gts, U2, frs, vts, bls, sb, ints] at hck ⊢
  (repeat first | refine uA ?_ | (apply S.exit; exact rfl) | ((with_reducible refine And.intro ?_ ?_); focus first | omega | trivial | exact id | (intros; simp_all <;> omega)) | simp (disch := omega) only [go_sem, Nat.reduceBEq, Nat.reduceAdd, Nat.reduceLeDiff, Int.reduceToNat, Int.reducePow, ww] | (refine uD hck ?_ ?_ ?_; exact tz hw; exact rfl))
  refine S.cond rfl (fun hc => ?_) (fun hc => by simp at hc; exact absurd hc hd)
  (repeat first | refine uA ?_ | (apply S.exit; exact rfl) | ((with_reducible refine And.intro ?_ ?_); focus first | omega | trivial | exact id | (intros; simp_all <;> omega)) | simp (disch := omega) only [go_sem, Nat.reduceBEq, Nat.reduceAdd, Nat.reduceLeDiff, Int.reduceToNat, Int.reducePow, ww])
  (refine S.done ?_; simp only [x9, u6, go_sem, Nat.reduceBEq, Nat.reduceAdd, Nat.reduceLeDiff, Int.reduceToNat, Int.reducePow]; (repeat (refine ⟨?_, ?_⟩; focus first | trivial | omega | simp)); exact d9.out rfl (Imp.refl rfl) rfl)
end Go.Proofs.YtogfpjohjphngaaGreatDoor
namespace Go.Proofs.YtogfpjohjphngaaGreatDoor
set_option linter.all false
open Go Go.RowKit Eng
set_option maxRecDepth 100000
set_option maxHeartbeats 16000000
theorem a5j : Rb 8 (Nm.ofQ 0) := ⟨Nm.I5 (by decide), Nm.I5 (by decide)⟩
theorem c1k : FZ 71 [.v (.int .i64 0)] (rq 0) := by
 have := a5Y 0 (by decide) (by decide)
 rwa [show ((0 : Int) : Rat) = 0 from rfl] at this
theorem c2e : FZ 154 [] a1u.c := by
 refine q8.of b2r b2y (by exact Nat.le_of_ble_eq_true rfl) fun w O hw => ?_
 have h1 := c1k
 have h2 := c0S (Nm.ofQ 0) (a5j.mono (by decide))
 rw [Nm.G9] at h2
 unfold tq rq at *
 unfold a1u
 generalize Nm.ofQ 0 = r at *
 simp only [a6i, l9, TT, II, OA, OB, OC, MM, LL, VV, FF, MG, LG, VG, FG]
 simp only [Fr.c, Fr.enc, rc, tc, sb] at *
 (repeat first | refine uA ?_ | (apply S.exit; exact rfl) | ((with_reducible refine And.intro ?_ ?_); focus first | omega | trivial | exact id | (intros; simp_all <;> omega)) | simp (disch := omega) only [go_sem, Nat.reduceBEq, Nat.reduceAdd, Nat.reduceLeDiff, Int.reduceToNat, Int.reducePow, ww] | (refine uD h1 ?_ ?_ ?_; exact tz hw; exact rfl) | (refine uD h2 ?_ ?_ ?_; exact tz hw; exact rfl))
 (refine S.done ?_; simp only [x9, u6, go_sem, Nat.reduceBEq, Nat.reduceAdd, Nat.reduceLeDiff, Int.reduceToNat, Int.reducePow]; (repeat (refine ⟨?_, ?_⟩; focus first | trivial | omega | simp)); exact d9.out rfl (Imp.refl rfl) rfl)
end Go.Proofs.YtogfpjohjphngaaGreatDoor
