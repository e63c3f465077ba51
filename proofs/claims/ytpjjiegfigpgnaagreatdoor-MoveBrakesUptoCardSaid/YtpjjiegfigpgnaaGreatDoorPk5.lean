/- A part of the proof: lemmas only, with the conditions that each names. -/
import Derived.Test.YtpjjiegfigpgnaaGreatDoorProg
import Derived.KernelRfl
import Derived.Test.YtpjjiegfigpgnaaGreatDoorPk4
set_option linter.all false
namespace Go.Proofs.YtpjjiegfigpgnaaGreatDoor
open Go Eng
def a2t : L9 := ⟨89, [.tmp 2], .seq (.reg [OA 1 (.box 30 (TT 0)), OA 2 (.mv (II 0))]) (.seq (.seq (.reg [FF 7 0 1, VV 8 7, OA 9 (.len false (TT 8)), OA 10 (.bin .gtr (TT 9) (II 4)), MM 11 10, FG 12 1 1 11 false, VG 13 12 11 false, OC 14 (.len
 false (TT 13)) 11 false, OC 15 (.bin .gtr (TT 14) (II 10)) 11 false, OA 16 (.pick (TT 11) (.const (.bool true)) (TT 15)), MM 17 16, FG 18 2 1 17 false, VG 19 18 17 false, OC 20 (.len false (TT 19)) 17 false, OC 21 (.bin .gtr (TT
 20) (II 6)) 17 false, OA 22 (.pick (TT 17) (.const (.bool true)) (TT 21)), MM 23 22, FG 24 3 1 23 false, VG 25 24 23 false, OC 26 (.len false (TT 25)) 23 false, OC 27 (.bin .gtr (TT 26) (II 8)) 23 false, OA 28 (.pick (TT 23)
 (.const (.bool true)) (TT 27)), MM 29 28, FG 30 4 1 29 false, VG 31 30 29 false, OC 32 (.len false (TT 31)) 29 false, OC 33 (.bin .gtr (TT 32) (II 4)) 29 false, OA 34 (.pick (TT 29) (.const (.bool true)) (TT 33))]) (.cond (TT
 34) (.seq (.reg [OA 2 (.mv (II 2))]) .ret) .skip)) (.seq (.seq (.reg [FF 35 0 1, VV 36 35, OA 37 (.len false (TT 36)), OA 38 (.bin .eql (TT 37) (II 0))]) (.cond (TT 38) (.seq (.reg [OA 2 (.mv (II 4))]) .ret) .skip)) (.seq (.reg
 [OA 39 (.a1X true), OA 3 (.alloc 105 [.map none]), OB (.store 1 (TT 3) (TT 39))]) (.seq (.reg [OA 40 (.clo 48 [TT 3]), MM 4 40]) (.seq (.seq (.F4 [.q, .q, .q, .e none false, .l, .l, .q, .l, .l, .l, .l, .e none false, .l, .l,
 .l, .l, .e none false, .l, .l, .l, .l, .e none false, .q, .q, .l] [FF 41 0 1, VV 42 41, MM 43 4, OA 44 (.call 51 [TT 42, TT 43]), FF 45 1 1, VV 46 45, OA 47 (.call 52 [TT 46, .func 53]), FF 48 2 1, VV 49 48, VV 50 3, OA 51 (.bnd
 55 (TT 50)), OA 52 (.call 54 [TT 49, TT 51]), FF 53 3 1, VV 54 53, VV 55 3, OA 56 (.bnd 57 (TT 55)), OA 57 (.call 56 [TT 54, TT 56]), FF 58 4 1, VV 59 58, VV 60 3, OA 61 (.bnd 59 (TT 60)), OA 62 (.call 58 [TT 59, TT 61]), OA 63
 (.bsl 40 1 5 [.int .i64 0] [(0, TT 44), (1, TT 47), (2, TT 52), (3, TT 57), (4, TT 62)]), OA 64 (.len false (TT 63)), OA 65 (.mv (II 0))]) (.block 0 (.loop (.seq (.reg [OA 66 (.bin .lss (TT 65) (TT 64))]) (.seq (.cond (TT 66)
 .skip (.exit 0)) (.seq (.block 1 (.seq (.reg [OA 67 (.p9 1 (TT 63) (TT 65)), VV 68 67, MM 6 68]) (.seq (.reg [MM 69 6, OA 70 (.bin .neq (TT 69) (II 0))]) (.cond (TT 70) (.seq (.reg [MM 71 6, MM 2 71]) .ret) .skip)))) (.reg
 [OA 72 (.bin .add (TT 65) (II 1)), MM 65 72]))))))) (.seq (.seq (.reg [FF 73 5 1, LL 74 3 73, OA 75 (.call 45 [TT 74]), OA 76 (.un .not (TT 75)), MM 77 76, FG 78 5 1 77 false, LG 79 3 78 77 false, OC 80 (.call 46 [TT 79]) 77
 false, OC 81 (.un .not (TT 80)) 77 false, OA 82 (.pick (TT 77) (.const (.bool true)) (TT 81)), MM 83 82, FG 84 5 1 83 false, LG 85 3 84 83 false, OC 86 (.call 31 [TT 85]) 83 false, OC 87 (.bin .lss (TT 86) (II 0)) 83 false, OA
 88 (.pick (TT 83) (.const (.bool true)) (TT 87))]) (.cond (TT 88) (.seq (.reg [OA 2 (.mv (II 1))]) .ret) .skip)) (.seq (.reg [OA 2 (.mv (II 0))]) .ret)))))))⟩
theorem a9E : J2 eff Tryz.prog Tryz.f11 = some a2t := by kernel_rfl
theorem a9O : Tryz.prog.funcs[11]? = some Tryz.f11 := Tryz.func11
def a5g : L9 := ⟨97, [.tmp 4], .seq (.reg [OA 2 (.box 30 (TT 0)), OA 3 (.box 47 (TT 1)), OA 4 (.mv (II 0))]) (.seq (.seq (.reg [LL 10 8 2, OA 11 (.call 11 [TT 10]), MM 5 11]) (.seq (.reg [MM 12 5, OA 13 (.bin .neq (TT 12) (II 0))]) (.cond (TT 13)
 (.seq (.reg [MM 14 5, MM 4 14]) .ret) .skip))) (.seq (.seq (.reg [FF 15 3 3, VV 16 15, OA 17 (.len false (TT 16)), OA 18 (.bin .gtr (TT 17) (II 4))]) (.cond (TT 18) (.seq (.reg [OA 4 (.mv (II 2))]) .ret) .skip)) (.seq (.seq
 (.reg [FF 19 0 3, VV 20 19, OA 21 (.bin .lss (TT 20) (II 0)), MM 22 21, FG 23 0 3 22 false, VG 24 23 22 false, OC 25 (.bin .gtr (TT 24) (II 2000)) 22 false, OA 26 (.pick (TT 22) (.const (.bool true)) (TT 25)), MM 27 26, FG 28 1
 3 27 false, VG 29 28 27 false, OC 30 (.len false (TT 29)) 27 false, FG 31 0 2 27 false, VG 32 31 27 false, OC 33 (.len false (TT 32)) 27 false, OC 34 (.bin .neq (TT 30) (TT 33)) 27 false, OA 35 (.pick (TT 27) (.const (.bool
 true)) (TT 34)), MM 36 35, FG 37 2 3 36 false, VG 38 37 36 false, OC 39 (.len false (TT 38)) 36 false, FG 40 2 2 36 false, VG 41 40 36 false, OC 42 (.len false (TT 41)) 36 false, OC 43 (.bin .neq (TT 39) (TT 42)) 36 false, OA 44
 (.pick (TT 36) (.const (.bool true)) (TT 43)), MM 45 44, FG 46 4 3 45 false, VG 47 46 45 false, OC 48 (.len false (TT 47)) 45 false, FG 49 4 2 45 false, VG 50 49 45 false, OC 51 (.len false (TT 50)) 45 false, OC 52 (.bin .neq
 (TT 48) (TT 51)) 45 false, OA 53 (.pick (TT 45) (.const (.bool true)) (TT 52))]) (.cond (TT 53) (.seq (.reg [OA 4 (.mv (II 1))]) .ret) .skip)) (.seq (.reg [OA 54 (.a1X false), MM 6 54]) (.seq (.seq (.reg [FF 55 1 3, VV 56 55,
 OA 57 (.len false (TT 56)), OA 58 (.mv (II 0))]) (.block 0 (.loop (.seq (.reg [OA 59 (.bin .lss (TT 58) (TT 57))]) (.seq (.cond (TT 59) .skip (.exit 0)) (.seq (.block 1 (.seq (.reg [MM 60 58, OA 61 (.p9 4 (TT 56) (TT 58)), LL
 62 4 61, OA 8 (.alloc 81 [.slice none 0 0, .slice none 0 0, .bool false, .int .i64 0]), MM 7 60, OB (.store 4 (TT 8) (TT 62))]) (.seq (.seq (.F4 [.q, .q, .q, .q, .q, .q, .q, .q, .q, .q, .q] [FF 63 0 2, VV 64 63, MM 65 7, OA 66
 (.p9 12 (TT 64) (TT 65)), LL 67 12 66, LL 68 4 8, FF 69 2 2, VV 70 69, OA 71 (.len false (TT 70)), OA 72 (.call 110 [TT 67, TT 68, TT 71]), MM 9 72]) (.seq (.reg [MM 73 9, OA 74 (.bin .neq (TT 73) (II 0))]) (.cond (TT 74)
 (.seq (.reg [MM 75 9, MM 4 75]) .ret) .skip))) (.seq (.seq (.reg [FF 76 3 8, VV 77 76, OA 78 (.bin .geq (TT 77) (II 0)), MM 79 78, MG 80 6 79 true, FG 81 3 8 79 true, VG 82 81 79 true, OC 83 (.lkp false (.bool false) false (TT
 80) (TT 82)) 79 true, OA 84 (.pick (TT 79) (TT 83) (.const (.bool false)))]) (.cond (TT 84) (.seq (.reg [OA 4 (.mv (II 10))]) .ret) .skip)) (.reg [MM 85 6, FF 86 3 8, VV 87 86, OB (.a5m false (TT 85) (TT 87) (.const (.bool
 true)))]))))) (.reg [OA 88 (.bin .add (TT 58) (II 1)), MM 58 88]))))))) (.seq (.seq (.reg [FF 89 2 3, VV 90 89, OA 91 (.call 111 [TT 90, .func 112]), MM 92 91, FG 93 3 3 92 false, VG 94 93 92 false, OC 95 (.call 114 [TT 94,
 .func 115]) 92 false, OA 96 (.pick (TT 92) (.const (.bool true)) (TT 95))]) (.cond (TT 96) (.seq (.reg [OA 4 (.mv (II 3))]) .ret) .skip)) (.seq (.reg [OA 4 (.mv (II 0))]) .ret)))))))⟩
theorem a9D : J2 eff Tryz.prog Tryz.f32 = some a5g := by kernel_rfl
theorem a9z : Tryz.prog.funcs[32]? = some Tryz.f32 := Tryz.func32
def a4N : L9 := ⟨91, [.cell 2 true 5, .tmp 3], .seq (.reg [OA 1 (.box 30 (TT 0)), OA 2 (.alloc 47 [.int .i64 0, .slice none 0 0, .slice none 0 0, .slice none 0 0, .slice none 0 0]), OA 3 (.mv (II 0))]) (.seq (.seq (.reg [LL 13 8 1, OA 14 (.call
 11 [TT 13]), MM 4 14]) (.seq (.reg [MM 15 4, OA 16 (.bin .neq (TT 15) (II 0))]) (.cond (TT 16) (.seq (.reg [OA 17 (.build [.int .i64 0, .slice none 0 0, .slice none 0 0, .slice none 0 0, .slice none 0 0] []), MM 18 4, OB (.store
 5 (TT 2) (TT 17)), MM 3 18]) .ret) .skip))) (.seq (.reg [OA 5 (.alloc 47 [.int .i64 0, .slice none 0 0, .slice none 0 0, .slice none 0 0, .slice none 0 0])]) (.seq (.seq (.reg [FF 19 0 1, VV 20 19, OA 21 (.len false (TT 20)), OA
 22 (.mv (II 0))]) (.block 0 (.loop (.seq (.reg [OA 23 (.bin .lss (TT 22) (TT 21))]) (.seq (.cond (TT 23) .skip (.exit 0)) (.seq (.block 1 (.seq (.reg [OA 24 (.p9 12 (TT 20) (TT 22)), LL 25 12 24, OA 7 (.alloc 60 [.string
 ⟨#[]⟩, .bool false, .string ⟨#[]⟩, .string ⟨#[]⟩, .bool false, .string ⟨#[]⟩, .string ⟨#[]⟩, .bool false, .bool false, .string ⟨#[]⟩, .string ⟨#[]⟩, .slice none 0 0]), OB (.store 12 (TT 7) (TT 25))]) (.seq (.reg [OA 26 (.build
 [.slice none 0 0, .slice none 0 0, .bool false, .int .i64 0] [(3, (1, II (-1)))]), OA 8 (.alloc 81 [.slice none 0 0, .slice none 0 0, .bool false, .int .i64 0]), OB (.store 4 (TT 8) (TT 26))]) (.seq (.seq (.reg [FF 27 11 7, VV
 28 27, OA 29 (.len false (TT 28)), OA 30 (.mv (II 0))]) (.block 2 (.loop (.seq (.reg [OA 31 (.bin .lss (TT 30) (TT 29))]) (.seq (.cond (TT 31) .skip (.exit 2)) (.seq (.block 3 (.seq (.reg [OA 32 (.p9 16 (TT 28) (TT 30)), LL
 33 16 32, OA 10 (.alloc 127 [.bool false, .string ⟨#[]⟩, .string ⟨#[]⟩, .bool false, .string ⟨#[]⟩, .string ⟨#[]⟩, .bool false, .string ⟨#[]⟩, .string ⟨#[]⟩, .bool false, .string ⟨#[]⟩, .string ⟨#[]⟩, .bool false, .string ⟨#[]⟩,
 .string ⟨#[]⟩, .slice none 0 0]), OB (.store 16 (TT 10) (TT 33))]) (.seq (.F4 [.q, .q, .q, .q, .q, .q, .q, .q, .q, .q, .e none true, .q, .e none true] [FF 34 0 8, VV 35 34, FF 36 3 10, LL 37 3 36, FF 38 6 10, LL 39 3 38, OA 40
 (.call 157 [II 0]), OA 41 (.call 106 [TT 39, TT 40]), OA 42 (.call 104 [TT 37, TT 41]), OA 43 (.bsl 28 3 1 [.bool false, .string ⟨#[]⟩, .string ⟨#[]⟩] [(0, TT 42)]), OA 44 (.app 28 3 40 (TT 35) (TT 43)), FF 45 0 8, OB (.store 1
 (TT 45) (TT 44))]) (.F4 [.q, .q, .q, .q, .e none true, .q, .e none true] [FF 46 1 8, VV 47 46, OA 48 (.call 157 [II 0]), OA 49 (.bsl 28 3 1 [.bool false, .string ⟨#[]⟩, .string ⟨#[]⟩] [(0, TT 48)]), OA 50 (.app 28 3 40 (TT 47)
 (TT 49)), FF 51 1 8, OB (.store 1 (TT 51) (TT 50))])))) (.reg [OA 52 (.bin .add (TT 30) (II 1)), MM 30 52]))))))) (.reg [FF 53 1 5, VV 54 53, LL 55 4 8, OA 56 (.bsl 81 4 1 [.slice none 0 0, .slice none 0 0, .bool false, .int
 .i64 0] [(0, TT 55)]), OA 57 (.app 81 4 64 (TT 54) (TT 56)), FF 58 1 5, OB (.store 1 (TT 58) (TT 57))]))))) (.reg [OA 59 (.bin .add (TT 22) (II 1)), MM 22 59]))))))) (.seq (.seq (.reg [FF 60 2 1, VV 61 60, OA 62 (.len false (TT
 61)), OA 63 (.mv (II 0))]) (.block 4 (.loop (.seq (.reg [OA 64 (.bin .lss (TT 63) (TT 62))]) (.seq (.cond (TT 64) .skip (.exit 4)) (.seq (.block 5 (.seq (.reg [MM 65 63, MM 11 65]) (.seq (.reg [OA 66 (.call 122 []), OA 12
 (.alloc 36 [.bool false, .string ⟨#[]⟩, .string ⟨#[]⟩, .bool false, .string ⟨#[]⟩, .string ⟨#[]⟩, .bool false, .bool false, .string ⟨#[]⟩, .string ⟨#[]⟩]), OB (.store 10 (TT 12) (TT 66))]) (.seq (.seq (.reg [MM 67 11, FF 68 3 1,
 VV 69 68, OA 70 (.len false (TT 69)), OA 71 (.bin .lss (TT 67) (TT 70))]) (.cond (TT 71) (.reg [FF 72 3 1, VV 73 72, MM 74 11, OA 75 (.p9 14 (TT 73) (TT 74)), FF 76 1 75, LL 77 10 76, OB (.store 10 (TT 12) (TT 77))]) .skip))
 (.reg [FF 78 2 5, VV 79 78, LL 80 10 12, OA 81 (.bsl 36 10 1 [.bool false, .string ⟨#[]⟩, .string ⟨#[]⟩, .bool false, .string ⟨#[]⟩, .string ⟨#[]⟩, .bool false, .bool false, .string ⟨#[]⟩, .string ⟨#[]⟩] [(0, TT 80)]), OA 82
 (.app 36 10 128 (TT 79) (TT 81)), FF 83 2 5, OB (.store 1 (TT 83) (TT 82))]))))) (.reg [OA 84 (.bin .add (TT 63) (II 1)), MM 63 84]))))))) (.seq (.reg [FF 85 4 1, VV 86 85, OA 87 (.len false (TT 86)), OA 88 (.a0F 4 1 [.bool
 false] (TT 87) (TT 87)), FF 89 4 5, OB (.store 1 (TT 89) (TT 88))]) (.seq (.reg [LL 90 5 5, OB (.store 5 (TT 2) (TT 90)), OA 3 (.mv (II 0))]) .ret))))))⟩
theorem a9u : J2 eff Tryz.prog Tryz.f97 = some a4N := by kernel_rfl
theorem a9B : Tryz.prog.funcs[97]? = some Tryz.f97 := Tryz.func97
def a6j : L9 := ⟨64, [.tmp 6], .seq (.reg [OA 3 (.box 60 (TT 0)), OA 4 (.box 81 (TT 1)), OA 6 (.mv (II 0))]) (.seq (.seq (.reg [FF 10 0 4, VV 11 10, OA 12 (.call 116 [TT 11]), OA 13 (.un .not (TT 12)), MM 14 13, FG 15 1 4 14 false, VG 16 15 14
 false, OC 17 (.call 116 [TT 16]) 14 false, OC 18 (.un .not (TT 17)) 14 false, OA 19 (.pick (TT 14) (.const (.bool true)) (TT 18))]) (.cond (TT 19) (.seq (.reg [OA 6 (.mv (II 3))]) .ret) .skip)) (.seq (.seq (.reg [LL 20 12 3, FF
 21 0 4, VV 22 21, OA 23 (.call 172 [TT 20, TT 22]), MM 7 23]) (.seq (.reg [MM 24 7, OA 25 (.bin .neq (TT 24) (II 0))]) (.cond (TT 25) (.seq (.reg [MM 26 7, MM 6 26]) .ret) .skip))) (.seq (.seq (.reg [FF 27 1 4, VV 28 27, OA 29
 (.len false (TT 28)), FF 30 11 3, VV 31 30, OA 32 (.len false (TT 31)), OA 33 (.bin .neq (TT 29) (TT 32)), MM 34 33, FG 35 3 4 34 false, VG 36 35 34 false, OC 37 (.bin .lss (TT 36) (II (-1))) 34 false, OA 38 (.pick (TT 34)
 (.const (.bool true)) (TT 37)), MM 39 38, FG 40 3 4 39 false, VG 41 40 39 false, MG 42 2 39 false, OC 43 (.bin .geq (TT 41) (TT 42)) 39 false, OA 44 (.pick (TT 39) (.const (.bool true)) (TT 43))]) (.cond (TT 44) (.seq (.reg [OA
 6 (.mv (II 1))]) .ret) .skip)) (.seq (.seq (.reg [FF 45 11 3, VV 46 45, OA 47 (.len false (TT 46)), OA 48 (.mv (II 0))]) (.block 0 (.loop (.seq (.reg [OA 49 (.bin .lss (TT 48) (TT 47))]) (.seq (.cond (TT 49) .skip (.exit 0))
 (.seq (.block 1 (.seq (.reg [MM 50 48, OA 51 (.p9 16 (TT 46) (TT 48)), LL 52 16 51, OA 9 (.alloc 127 [.bool false, .string ⟨#[]⟩, .string ⟨#[]⟩, .bool false, .string ⟨#[]⟩, .string ⟨#[]⟩, .bool false, .string ⟨#[]⟩, .string
 ⟨#[]⟩, .bool false, .string ⟨#[]⟩, .string ⟨#[]⟩, .bool false, .string ⟨#[]⟩, .string ⟨#[]⟩, .slice none 0 0]), MM 8 50, OB (.store 16 (TT 9) (TT 52))]) (.seq (.F4 [.q, .q, .q, .q, .q, .q, .q, .q, .q, .q] [FF 53 1 4, VV 54 53,
 MM 55 8, OA 56 (.p9 3 (TT 54) (TT 55)), LL 57 3 56, OA 58 (.call 30 [TT 57]), FF 59 9 9, LL 60 3 59, OA 61 (.call 29 [TT 58, TT 60]), OA 62 (.bin .gtr (TT 61) (II 0))]) (.cond (TT 62) (.seq (.reg [OA 6 (.mv (II 1))]) .ret)
 .skip)))) (.reg [OA 63 (.bin .add (TT 48) (II 1)), MM 48 63]))))))) (.seq (.reg [OA 6 (.mv (II 0))]) .ret)))))⟩
theorem b1n : J2 eff Tryz.prog Tryz.f110 = some a6j := by kernel_rfl
theorem b1C : Tryz.prog.funcs[110]? = some Tryz.f110 := Tryz.func110
def a3i : L9 := ⟨159, [.cell 2 true 8], .seq (.reg [OA 2 (.alloc 30 [.slice none 0 0, .slice none 0 0, .slice none 0 0, .slice none 0 0, .slice none 0 0, .bool false, .string ⟨#[]⟩, .string ⟨#[]⟩])]) (.seq (.reg [MM 12 0, OA 13 (.build [.slice
 none 0 0] [(0, (1, TT 12))]), OA 14 (.box 209 (TT 13)), MM 3 14]) (.seq (.reg [OA 4 (.alloc 30 [.slice none 0 0, .slice none 0 0, .slice none 0 0, .slice none 0 0, .slice none 0 0, .bool false, .string ⟨#[]⟩, .string ⟨#[]⟩])])
 (.seq (.seq (.reg [MM 15 3, OA 16 (.call 151 [TT 15, II 2]), OA 17 (.bin .add (II 1) (TT 16)), OA 18 (.mv (II 0))]) (.block 0 (.loop (.seq (.reg [OA 19 (.bin .lss (TT 18) (TT 17))]) (.seq (.cond (TT 19) .skip (.exit 0)) (.seq
 (.block 1 (.seq (.reg [MM 20 18, MM 5 20]) (.F4 [.l, .l, .q, .q, .e none false, .q, .e none true, .q, .e none true] [FF 21 0 4, VV 22 21, MM 23 3, MM 24 5, OA 25 (.call 152 [TT 23, TT 24]), OA 26 (.bsl 60 12 1 [.string ⟨#[]⟩,
 .bool false, .string ⟨#[]⟩, .string ⟨#[]⟩, .bool false, .string ⟨#[]⟩, .string ⟨#[]⟩, .bool false, .bool false, .string ⟨#[]⟩, .string ⟨#[]⟩, .slice none 0 0] [(0, TT 25)]), OA 27 (.app 60 12 168 (TT 22) (TT 26)), FF 28 0 4, OB
 (.store 1 (TT 28) (TT 27))]))) (.reg [OA 29 (.bin .add (TT 18) (II 1)), MM 18 29]))))))) (.seq (.seq (.reg [MM 30 3, OA 31 (.call 151 [TT 30, II 3]), OA 32 (.mv (II 0))]) (.block 2 (.loop (.seq (.reg [OA 33 (.bin .lss (TT 32)
 (TT 31))]) (.seq (.cond (TT 33) .skip (.exit 2)) (.seq (.block 3 (.seq (.reg [MM 34 3, OA 35 (.call 151 [TT 34, II 80]), OA 36 (.bin .sub (TT 35) (II 30)), MM 37 3, OA 38 (.call 151 [TT 37, II 30]), OA 39 (.bin .add (II 12) (TT
 38)), MM 6 36, MM 7 39]) (.seq (.seq (.reg [MM 40 3, OA 41 (.call 151 [TT 40, II 2]), OA 42 (.bin .eql (TT 41) (II 1))]) (.cond (TT 42) (.reg [MM 43 7, OA 44 (.un .neg (TT 43)), OA 45 (.bin .sub (TT 44) (II 6)), MM 7 45])
 .skip)) (.F4 [.l, .l, .l, .l, .l, .l, .q, .e none false, .l, .l, .l, .l, .e none false, .q, .q, .q, .e none true, .q, .e none true] [FF 46 1 4, VV 47 46, MM 48 6, MM 49 7, MM 50 6, OA 51 (.bin .add (TT 50) (II 1)), MM 52 3, OA
 53 (.call 151 [TT 52, II 20]), OA 54 (.bin .add (TT 51) (TT 53)), MM 55 7, OA 56 (.bin .add (TT 55) (II 1)), MM 57 3, OA 58 (.call 151 [TT 57, II 5]), OA 59 (.bin .add (TT 56) (TT 58)), OA 60 (.call 153 [TT 48, TT 49, TT 54, TT
 59]), OA 61 (.bsl 44 1 1 [.slice none 0 0] [(0, TT 60)]), OA 62 (.app 44 1 24 (TT 47) (TT 61)), FF 63 1 4, OB (.store 1 (TT 63) (TT 62))])))) (.reg [OA 64 (.bin .add (TT 32) (II 1)), MM 32 64]))))))) (.seq (.seq (.reg [MM 65 3,
 OA 66 (.call 151 [TT 65, II 3]), OA 67 (.mv (II 0))]) (.block 4 (.loop (.seq (.reg [OA 68 (.bin .lss (TT 67) (TT 66))]) (.seq (.cond (TT 68) .skip (.exit 4)) (.seq (.block 5 (.seq (.reg [MM 69 67, MM 8 69]) (.F4 [.l, .l, .l,
 .l, .l, .l, .q, .e none false, .q, .q, .q, .q, .q, .q, .e none true, .q, .e none true] [FF 70 2 4, VV 71 70, OA 72 (.bsl 9 1 2 [.string ⟨#[]⟩] [(0, .const (.string ⟨#[98, 111, 108, 116]⟩)), (1, .const (.string ⟨#[110, 117,
 116]⟩))]), MM 73 8, OA 74 (.p9 1 (TT 72) (TT 73)), VV 75 74, MM 76 3, OA 77 (.call 154 [TT 76]), OA 78 (.call 155 [II 0, II 0]), OA 79 (.call 156 [II 0, II 1]), OA 80 (.build [.bool false, .bool false, .string ⟨#[]⟩, .string
 ⟨#[]⟩] [(1, (3, TT 79))]), OA 81 (.build [.bool false, .string ⟨#[]⟩, .string ⟨#[]⟩, .bool false, .string ⟨#[]⟩, .string ⟨#[]⟩, .bool false, .bool false, .string ⟨#[]⟩, .string ⟨#[]⟩] [(0, (6, TT 78)), (6, (4, TT 80))]), OA 82
 (.build [.string ⟨#[]⟩, .slice none 0 0, .bool false, .string ⟨#[]⟩, .string ⟨#[]⟩, .bool false, .string ⟨#[]⟩, .string ⟨#[]⟩, .bool false, .bool false, .string ⟨#[]⟩, .string ⟨#[]⟩] [(0, (1, TT 75)), (1, (1, TT 77)), (2, (10,
 TT 81))]), OA 83 (.bsl 64 12 1 [.string ⟨#[]⟩, .slice none 0 0, .bool false, .string ⟨#[]⟩, .string ⟨#[]⟩, .bool false, .string ⟨#[]⟩, .string ⟨#[]⟩, .bool false, .bool false, .string ⟨#[]⟩, .string ⟨#[]⟩] [(0, TT 82)]), OA 84
 (.app 64 12 168 (TT 71) (TT 83)), FF 85 2 4, OB (.store 1 (TT 85) (TT 84))]))) (.reg [OA 86 (.bin .add (TT 67) (II 1)), MM 67 86]))))))) (.seq (.seq (.F4 [.l, .l, .l, .q, .e none false, .q, .l] [FF 87 2 4, VV 88 87, OA 89
 (.len false (TT 88)), MM 90 3, OA 91 (.call 151 [TT 90, II 2]), OA 92 (.bin .add (TT 89) (TT 91)), OA 93 (.mv (II 0))]) (.block 6 (.loop (.seq (.reg [OA 94 (.bin .lss (TT 93) (TT 92))]) (.seq (.cond (TT 94) .skip (.exit 6))
 (.seq (.block 7 (.seq (.reg [MM 95 93, MM 9 95]) (.F4 [.l, .l, .l, .l, .l, .l, .q, .e none false, .l, .l, .e none false, .q, .q, .l, .e none false, .q, .q, .l, .l, .l, .e none false, .q, .q, .q, .q, .e none true, .q, .e none
 true] [FF 96 3 4, VV 97 96, OA 98 (.bsl 9 1 3 [.string ⟨#[]⟩] [(0, .const (.string ⟨#[104, 101, 114, 101]⟩)), (1, .const (.string ⟨#[116, 104, 101, 114, 101]⟩)), (2, .const (.string ⟨#[98, 101, 121, 111, 110, 100]⟩))]), MM 99 9,
 OA 100 (.p9 1 (TT 98) (TT 99)), VV 101 100, MM 102 3, OA 103 (.call 151 [TT 102, II 40]), OA 104 (.bin .sub (TT 103) (II 20)), MM 105 3, OA 106 (.call 151 [TT 105, II 24]), OA 107 (.bin .sub (TT 106) (II 12)), OA 108 (.call
 155 [TT 104, TT 107]), MM 109 3, OA 110 (.call 151 [TT 109, II 5]), OA 111 (.bin .sub (TT 110) (II 2)), OA 112 (.call 156 [TT 111, II 2]), OA 113 (.build [.bool false, .bool false, .string ⟨#[]⟩, .string ⟨#[]⟩] [(1, (3, TT
 112))]), OA 114 (.build [.bool false, .string ⟨#[]⟩, .string ⟨#[]⟩, .bool false, .string ⟨#[]⟩, .string ⟨#[]⟩, .bool false, .bool false, .string ⟨#[]⟩, .string ⟨#[]⟩] [(0, (6, TT 108)), (6, (4, TT 113))]), MM 115 3, OA 116
 (.call 151 [TT 115, II 20]), OA 117 (.bin .add (II 8) (TT 116)), OA 118 (.call 156 [II 1, TT 117]), OA 119 (.build [.string ⟨#[]⟩, .bool false, .string ⟨#[]⟩, .string ⟨#[]⟩, .bool false, .string ⟨#[]⟩, .string ⟨#[]⟩, .bool
 false, .bool false, .string ⟨#[]⟩, .string ⟨#[]⟩, .bool false, .string ⟨#[]⟩, .string ⟨#[]⟩] [(0, (1, TT 101)), (1, (10, TT 114)), (11, (3, TT 118))]), OA 120 (.bsl 68 14 1 [.string ⟨#[]⟩, .bool false, .string ⟨#[]⟩, .string
 ⟨#[]⟩, .bool false, .string ⟨#[]⟩, .string ⟨#[]⟩, .bool false, .bool false, .string ⟨#[]⟩, .string ⟨#[]⟩, .bool false, .string ⟨#[]⟩, .string ⟨#[]⟩] [(0, TT 119)]), OA 121 (.app 68 14 184 (TT 97) (TT 120)), FF 122 3 4, OB
 (.store 1 (TT 122) (TT 121))]))) (.reg [OA 123 (.bin .add (TT 93) (II 1)), MM 93 123]))))))) (.seq (.seq (.reg [MM 124 3, OA 125 (.call 151 [TT 124, II 2]), OA 126 (.mv (II 0))]) (.block 8 (.loop (.seq (.reg [OA 127 (.bin .lss
 (TT 126) (TT 125))]) (.seq (.cond (TT 127) .skip (.exit 8)) (.seq (.block 9 (.seq (.reg [MM 128 3, OA 129 (.call 151 [TT 128, II 60]), OA 130 (.bin .sub (TT 129) (II 30)), MM 131 3, OA 132 (.call 151 [TT 131, II 60]), OA 133
 (.bin .sub (TT 132) (II 30)), MM 10 130, MM 11 133]) (.F4 [.l, .l, .q, .q, .q, .l, .q, .e none false, .l, .l, .l, .e none false, .q, .q, .q, .q, .q, .e none true, .q, .e none true] [FF 134 4 4, VV 135 134, MM 136 10, MM 137
 11, OA 138 (.call 155 [TT 136, TT 137]), MM 139 10, MM 140 3, OA 141 (.call 151 [TT 140, II 12]), OA 142 (.bin .add (TT 139) (TT 141)), MM 143 11, MM 144 3, OA 145 (.call 151 [TT 144, II 12]), OA 146 (.bin .add (TT 143) (TT
 145)), OA 147 (.call 155 [TT 142, TT 146]), OA 148 (.build [.bool false, .string ⟨#[]⟩, .string ⟨#[]⟩, .bool false, .string ⟨#[]⟩, .string ⟨#[]⟩, .bool false, .string ⟨#[]⟩, .string ⟨#[]⟩, .bool false, .string ⟨#[]⟩, .string
 ⟨#[]⟩] [(0, (6, TT 138)), (6, (6, TT 147))]), OA 149 (.build [.string ⟨#[]⟩, .bool false, .string ⟨#[]⟩, .string ⟨#[]⟩, .bool false, .string ⟨#[]⟩, .string ⟨#[]⟩, .bool false, .string ⟨#[]⟩, .string ⟨#[]⟩, .bool false, .string
 ⟨#[]⟩, .string ⟨#[]⟩] [(0, (1, .const (.string ⟨#[100, 111, 111, 114]⟩))), (1, (12, TT 148))]), OA 150 (.bsl 119 13 1 [.string ⟨#[]⟩, .bool false, .string ⟨#[]⟩, .string ⟨#[]⟩, .bool false, .string ⟨#[]⟩, .string ⟨#[]⟩, .bool
 false, .string ⟨#[]⟩, .string ⟨#[]⟩, .bool false, .string ⟨#[]⟩, .string ⟨#[]⟩] [(0, TT 149)]), OA 151 (.app 119 13 176 (TT 135) (TT 150)), FF 152 4 4, OB (.store 1 (TT 152) (TT 151))]))) (.reg [OA 153 (.bin .add (TT 126) (II
 1)), MM 126 153]))))))) (.seq (.reg [MM 154 3, OA 155 (.call 151 [TT 154, II 4]), OA 156 (.call 156 [TT 155, II 8]), FF 157 5 4, OB (.store 3 (TT 157) (TT 156))]) (.seq (.reg [LL 158 8 4, OB (.store 8 (TT 2) (TT 158))])
 .ret)))))))))⟩
theorem a7l : J2 eff Tryz.prog Tryz.f96 = some a3i := by kernel_rfl
theorem a7i : Tryz.prog.funcs[96]? = some Tryz.f96 := Tryz.func96
def a4g : L9 := ⟨77, [.cell 4 true 12], .seq (.reg [OA 4 (.alloc 60 [.string ⟨#[]⟩, .bool false, .string ⟨#[]⟩, .string ⟨#[]⟩, .bool false, .string ⟨#[]⟩, .string ⟨#[]⟩, .bool false, .bool false, .string ⟨#[]⟩, .string ⟨#[]⟩, .slice none 0 0])])
 (.seq (.reg [OA 8 (.bsl 9 1 4 [.string ⟨#[]⟩] [(0, .const (.string ⟨#[111, 110, 101]⟩)), (1, .const (.string ⟨#[116, 119, 111]⟩)), (2, .const (.string ⟨#[116, 104, 114, 101, 101]⟩)), (3, .const (.string ⟨#[102, 111, 117,
 114]⟩))]), MM 9 1, OA 10 (.p9 1 (TT 8) (TT 9)), VV 11 10, OA 12 (.build [.string ⟨#[]⟩, .bool false, .string ⟨#[]⟩, .string ⟨#[]⟩, .bool false, .string ⟨#[]⟩, .string ⟨#[]⟩, .bool false, .bool false, .string ⟨#[]⟩, .string
 ⟨#[]⟩, .slice none 0 0] [(0, (1, TT 11))]), OA 5 (.alloc 60 [.string ⟨#[]⟩, .bool false, .string ⟨#[]⟩, .string ⟨#[]⟩, .bool false, .string ⟨#[]⟩, .string ⟨#[]⟩, .bool false, .bool false, .string ⟨#[]⟩, .string ⟨#[]⟩, .slice
 none 0 0]), OB (.store 12 (TT 5) (TT 12))]) (.seq (.F4 [.q, .q, .q, .l, .q, .e none false, .l, .l, .l, .e none false, .q, .q, .q, .q, .q, .e none true] [MM 13 1, OA 14 (.bin .mul (II 40) (TT 13)), OA 15 (.call 155 [TT 14, II
 0]), OA 16 (.bsl 3 1 4 [.int .i64 0] [(0, II 0), (1, II 1), (2, II (-1)), (3, II 1)]), MM 17 0, OA 18 (.call 151 [TT 17, II 4]), OA 19 (.p9 1 (TT 16) (TT 18)), VV 20 19, MM 21 0, OA 22 (.call 151 [TT 21, II 3]), OA 23 (.bin
 .add (II 1) (TT 22)), OA 24 (.call 156 [TT 20, TT 23]), OA 25 (.build [.bool false, .bool false, .string ⟨#[]⟩, .string ⟨#[]⟩] [(1, (3, TT 24))]), OA 26 (.build [.bool false, .string ⟨#[]⟩, .string ⟨#[]⟩, .bool false, .string
 ⟨#[]⟩, .string ⟨#[]⟩, .bool false, .bool false, .string ⟨#[]⟩, .string ⟨#[]⟩] [(0, (6, TT 15)), (6, (4, TT 25))]), FF 27 1 5, OB (.store 10 (TT 27) (TT 26))]) (.seq (.seq (.reg [MM 28 0, OA 29 (.call 151 [TT 28, II 3]), OA 30
 (.bin .add (II 1) (TT 29)), OA 31 (.mv (II 0))]) (.block 0 (.loop (.seq (.reg [OA 32 (.bin .lss (TT 31) (TT 30))]) (.seq (.cond (TT 32) .skip (.exit 0)) (.seq (.block 1 (.seq (.reg [MM 33 0, OA 34 (.call 151 [TT 33, II 4]), OA
 35 (.bin .mul (II 2) (TT 34)), OA 36 (.bin .add (II 4) (TT 35)), MM 6 36]) (.seq (.reg [MM 37 6, OA 38 (.call 156 [TT 37, II 4]), MM 39 0, OA 40 (.call 151 [TT 39, II 6]), OA 41 (.bin .sub (II (-1)) (TT 40)), OA 42 (.call 156
 [TT 41, II 3]), MM 43 0, OA 44 (.call 151 [TT 43, II 6]), OA 45 (.bin .add (II 1) (TT 44)), OA 46 (.call 156 [TT 45, II 3]), MM 47 0, OA 48 (.call 151 [TT 47, II 8]), OA 49 (.bin .add (II 4) (TT 48)), OA 50 (.call 156 [II 1, TT
 49]), MM 51 0, OA 52 (.call 151 [TT 51, II 20]), OA 53 (.bin .add (II 10) (TT 52)), OA 54 (.call 156 [II 1, TT 53]), MM 55 6, OA 56 (.bin .add (TT 55) (II 1)), OA 57 (.call 153 [II (-1), II (-1), TT 56, II 1]), OA 58 (.build
 [.bool false, .string ⟨#[]⟩, .string ⟨#[]⟩, .bool false, .string ⟨#[]⟩, .string ⟨#[]⟩, .bool false, .string ⟨#[]⟩, .string ⟨#[]⟩, .bool false, .string ⟨#[]⟩, .string ⟨#[]⟩, .bool false, .string ⟨#[]⟩, .string ⟨#[]⟩, .slice none
 0 0] [(0, (3, TT 38)), (3, (3, TT 42)), (6, (3, TT 46)), (9, (3, TT 50)), (12, (3, TT 54)), (15, (1, TT 57))]), OA 7 (.alloc 127 [.bool false, .string ⟨#[]⟩, .string ⟨#[]⟩, .bool false, .string ⟨#[]⟩, .string ⟨#[]⟩, .bool false,
 .string ⟨#[]⟩, .string ⟨#[]⟩, .bool false, .string ⟨#[]⟩, .string ⟨#[]⟩, .bool false, .string ⟨#[]⟩, .string ⟨#[]⟩, .slice none 0 0]), OB (.store 16 (TT 7) (TT 58))]) (.seq (.seq (.reg [MM 59 0, OA 60 (.call 151 [TT 59, II 3]),
 OA 61 (.bin .eql (TT 60) (II 2))]) (.cond (TT 61) (.reg [OA 62 (.call 155 [II (-1), II (-1)]), MM 63 6, OA 64 (.bin .add (TT 63) (II 1)), OA 65 (.call 155 [TT 64, II 0]), OA 66 (.call 155 [II (-1), II 1]), OA 67 (.bsl 32 6 3
 [.bool false, .string ⟨#[]⟩, .string ⟨#[]⟩, .bool false, .string ⟨#[]⟩, .string ⟨#[]⟩] [(0, TT 62), (1, TT 65), (2, TT 66)]), FF 68 15 7, OB (.store 1 (TT 68) (TT 67))]) .skip)) (.reg [FF 69 11 5, VV 70 69, LL 71 16 7, OA 72
 (.bsl 127 16 1 [.bool false, .string ⟨#[]⟩, .string ⟨#[]⟩, .bool false, .string ⟨#[]⟩, .string ⟨#[]⟩, .bool false, .string ⟨#[]⟩, .string ⟨#[]⟩, .bool false, .string ⟨#[]⟩, .string ⟨#[]⟩, .bool false, .string ⟨#[]⟩, .string
 ⟨#[]⟩, .slice none 0 0] [(0, TT 71)]), OA 73 (.app 127 16 224 (TT 70) (TT 72)), FF 74 11 5, OB (.store 1 (TT 74) (TT 73))]))))) (.reg [OA 75 (.bin .add (TT 31) (II 1)), MM 31 75]))))))) (.seq (.reg [LL 76 12 5, OB (.store 12 (TT
 4) (TT 76))]) .ret))))⟩
theorem a8t : J2 eff Tryz.prog Tryz.f152 = some a4g := by kernel_rfl
theorem a8Y : Tryz.prog.funcs[152]? = some Tryz.f152 := Tryz.func152
def a3M : L9 := ⟨93, [.tmp 2], .seq (.reg [OA 2 (.mv (.const (.slice none 0 0)))]) (.seq (.reg [MM 5 0, OA 6 (.call 151 [TT 5, II 6]), OA 7 (.bin .add (II 1) (TT 6)), MM 8 0, OA 9 (.call 151 [TT 8, II 6]), OA 10 (.bin .add (II 1) (TT 9)), MM 3 7,
 MM 4 10]) (.seq (.seq (.reg [MM 11 0, OA 12 (.call 151 [TT 11, II 4])]) (.block 0 (.seq (.reg [OA 14 (.bin .eql (TT 12) (II 0)), MM 13 14]) (.cond (TT 13) (.seq (.reg [MM 15 3, OA 16 (.un .neg (TT 15)), MM 17 4, OA 18 (.un .neg
 (TT 17)), OA 19 (.call 155 [TT 16, TT 18]), MM 20 3, MM 21 4, OA 22 (.un .neg (TT 21)), OA 23 (.call 155 [TT 20, TT 22]), MM 24 3, MM 25 4, OA 26 (.call 155 [TT 24, TT 25]), MM 27 3, OA 28 (.un .neg (TT 27)), MM 29 4, OA 30
 (.call 155 [TT 28, TT 29]), OA 31 (.bsl 32 6 4 [.bool false, .string ⟨#[]⟩, .string ⟨#[]⟩, .bool false, .string ⟨#[]⟩, .string ⟨#[]⟩] [(0, TT 19), (1, TT 23), (2, TT 26), (3, TT 30)]), MM 2 31]) .ret) (.seq (.reg [OA 33 (.bin
 .eql (TT 12) (II 1)), MM 32 33]) (.cond (TT 32) (.seq (.reg [MM 34 3, OA 35 (.un .neg (TT 34)), MM 36 4, OA 37 (.un .neg (TT 36)), OA 38 (.call 155 [TT 35, TT 37]), MM 39 3, MM 40 4, OA 41 (.un .neg (TT 40)), OA 42 (.call 155
 [TT 39, TT 41]), MM 43 0, MM 44 3, OA 45 (.bin .mul (II 2) (TT 44)), OA 46 (.bin .add (TT 45) (II 1)), OA 47 (.call 151 [TT 43, TT 46]), MM 48 3, OA 49 (.bin .sub (TT 47) (TT 48)), MM 50 4, OA 51 (.call 155 [TT 49, TT 50]), OA
 52 (.bsl 32 6 3 [.bool false, .string ⟨#[]⟩, .string ⟨#[]⟩, .bool false, .string ⟨#[]⟩, .string ⟨#[]⟩] [(0, TT 38), (1, TT 42), (2, TT 51)]), MM 2 52]) .ret) (.seq (.reg [OA 54 (.bin .eql (TT 12) (II 2)), MM 53 54]) (.cond (TT
 53) (.seq (.reg [MM 55 3, OA 56 (.un .neg (TT 55)), OA 57 (.bin .sub (TT 56) (II 1)), MM 58 4, OA 59 (.un .neg (TT 58)), OA 60 (.bin .sub (TT 59) (II 1)), OA 61 (.call 155 [TT 57, TT 60]), MM 62 3, MM 63 4, OA 64 (.un .neg (TT
 63)), OA 65 (.bin .sub (TT 64) (II 1)), OA 66 (.call 155 [TT 62, TT 65]), MM 67 3, OA 68 (.bin .add (TT 67) (II 1)), MM 69 4, OA 70 (.un .neg (TT 69)), OA 71 (.call 155 [TT 68, TT 70]), MM 72 3, OA 73 (.bin .add (TT 72) (II 1)),
 MM 74 4, OA 75 (.call 155 [TT 73, TT 74]), MM 76 3, OA 77 (.un .neg (TT 76)), OA 78 (.bin .sub (TT 77) (II 1)), MM 79 4, OA 80 (.call 155 [TT 78, TT 79]), OA 81 (.bsl 32 6 5 [.bool false, .string ⟨#[]⟩, .string ⟨#[]⟩, .bool
 false, .string ⟨#[]⟩, .string ⟨#[]⟩] [(0, TT 61), (1, TT 66), (2, TT 71), (3, TT 75), (4, TT 80)]), MM 2 81]) .ret) .skip)))))))) (.seq (.reg [MM 82 3, OA 83 (.un .neg (TT 82)), OA 84 (.call 155 [TT 83, II 0]), MM 85 4, OA 86
 (.un .neg (TT 85)), OA 87 (.call 155 [II 0, TT 86]), MM 88 3, OA 89 (.call 155 [TT 88, II 0]), MM 90 4, OA 91 (.call 155 [II 0, TT 90]), OA 92 (.bsl 32 6 4 [.bool false, .string ⟨#[]⟩, .string ⟨#[]⟩, .bool false, .string ⟨#[]⟩,
 .string ⟨#[]⟩] [(0, TT 84), (1, TT 87), (2, TT 89), (3, TT 91)]), MM 2 92]) .ret)))⟩
theorem a8h : J2 eff Tryz.prog Tryz.f154 = some a3M := by kernel_rfl
theorem a7I : Tryz.prog.funcs[154]? = some Tryz.f154 := Tryz.func154
def a2X : L9 := ⟨48, [.cell 2 true 8, .cell 3 true 5, .tmp 4], .seq (.reg [OA 2 (.alloc 30 [.slice none 0 0, .slice none 0 0, .slice none 0 0, .slice none 0 0, .slice none 0 0, .bool false, .string ⟨#[]⟩, .string ⟨#[]⟩]), OA 3 (.alloc 47 [.int
 .i64 0, .slice none 0 0, .slice none 0 0, .slice none 0 0, .slice none 0 0]), OA 4 (.mv (.const (.bool false)))]) (.seq (.reg [MM 8 0, OA 9 (.call 96 [TT 8]), OA 5 (.alloc 30 [.slice none 0 0, .slice none 0 0, .slice none 0 0,
 .slice none 0 0, .slice none 0 0, .bool false, .string ⟨#[]⟩, .string ⟨#[]⟩]), OB (.store 8 (TT 5) (TT 9))]) (.seq (.reg [LL 11 8 5, OA 12 (.call 97 [TT 11]), MM 10 12, OA 13 (.ext (TT 10) 0), OA 14 (.ext (TT 10) 1), OA 6
 (.alloc 47 [.int .i64 0, .slice none 0 0, .slice none 0 0, .slice none 0 0, .slice none 0 0]), OB (.store 5 (TT 6) (TT 13)), MM 7 14]) (.seq (.F4 [.q, .l, .q, .q, .q, .q, .q, .q, .q, .q, .q, .q, .q, .q, .q, .q, .q, .q, .q, .q,
 .q, .q, .q, .q, .q, .q, .q, .q, .q, .q, .q, .l, .l, .e none false, .e none false, .q] [LL 15 8 5, LL 16 5 6, MM 17 7, OA 18 (.bin .eql (TT 17) (II 0)), MM 19 18, FG 20 1 6 19 true, VG 21 20 19 true, OC 22 (.len false (TT 21)) 19
 true, FG 23 0 5 19 true, VG 24 23 19 true, OC 25 (.len false (TT 24)) 19 true, OC 26 (.bin .eql (TT 22) (TT 25)) 19 true, OA 27 (.pick (TT 19) (TT 26) (.const (.bool false))), MM 28 27, FG 29 2 6 28 true, VG 30 29 28 true, OC 31
 (.len false (TT 30)) 28 true, FG 32 2 5 28 true, VG 33 32 28 true, OC 34 (.len false (TT 33)) 28 true, OC 35 (.bin .eql (TT 31) (TT 34)) 28 true, OA 36 (.pick (TT 28) (TT 35) (.const (.bool false))), MM 37 36, LG 38 8 5 37 true,
 LG 39 5 6 37 true, OC 40 (.call 32 [TT 38, TT 39]) 37 true, OC 41 (.bin .eql (TT 40) (II 0)) 37 true, OA 42 (.pick (TT 37) (TT 41) (.const (.bool false))), MM 43 42, OC 44 (.build [.slice none 0 0, .slice none 0 0, .slice none 0
 0, .slice none 0 0, .slice none 0 0, .bool false, .string ⟨#[]⟩, .string ⟨#[]⟩] []) 43 true, OC 45 (.call 11 [TT 44]) 43 true, OC 46 (.bin .eql (TT 45) (II 4)) 43 true, OA 47 (.pick (TT 43) (TT 46) (.const (.bool false))), OB
 (.store 8 (TT 2) (TT 15)), OB (.store 5 (TT 3) (TT 16)), MM 4 47]) .ret)))⟩
theorem a6m : J2 eff Tryz.prog Tryz.f25 = some a2X := by kernel_rfl
theorem a6u : Tryz.prog.funcs[25]? = some Tryz.f25 := Tryz.func25
open Go Go.RowKit Eng
set_option maxRecDepth 10000
set_option maxHeartbeats 4000000
def X4 (b : UInt8) : Bool := decide (97 <= b.toNat) && decide (b.toNat <= 122)
theorem b0g {s : List UInt8} {i : Nat} (hi : i < s.length) (h : X4 s[i] = false) : a1n s = false := by
 unfold a1n
 have : (s.all fun b => decide (97 <= b.toNat) && decide (b.toNat <= 122)) = false := by
  rw [List.all_eq_false]
  exact ⟨s[i], c1B hi, by unfold X4 at h; rw [h]; decide⟩
 rw [this]
 rfl
theorem b1y {s : List UInt8} (h : ∀ j (h : j < s.length), X4 s[j] = true) : a1n s = (decide (1 <= s.length) && decide (s.length <= 12)) := by
 unfold a1n
 have : (s.all fun b => decide (97 <= b.toNat) && decide (b.toNat <= 122)) = true := by
  rw [List.all_eq_true]
  intro x hx
  obtain ⟨j, hj, rfl⟩ := List.mem_iff_getElem.1 hx
  exact h j hj
 rw [this, Bool.true_and]
theorem b8c (s : List UInt8) (hs : s.length <= 1099511627776) : F7 Tryz.prog 140 [sb s] (.v (.bool (a1n s))) := by
  refine kS Tryz.func140 (by cbv) (by rfl) fun w O => ?_
  simp only [j6, sb]
  (repeat first | refine uA ?_ | (refine uK ?_ ?_; focus first | omega | (intros; simp_all <;> omega)) | simp (disch := omega) only [go_sem, Nat.reduceBEq, Nat.reduceAdd, ww, D7])
  refine S.loop (X := Nat) (fun i => ⟨[(0, sb s), (5, ints s.length), (6, ints i)], []⟩) (fun i => i <= s.length /\ ∀ j (h : j < s.length), j < i -> X4 s[j] = true) (fun i => s.length - i) 0 ⟨c1u _, fun _ _ h => absurd h (Nat.not_lt_zero _)⟩ (by (repeat first | refine uA ?_ | (refine ⟨?_, ?_⟩; focus first | rfl | simp [slot]) | rfl | simp)) ?_
  rintro i ⟨hi, hg⟩
  simp only [sb, ints]
  (repeat first | refine uA ?_ | (refine uK ?_ ?_; focus first | omega | (intros; simp_all <;> omega)) | simp (disch := omega) only [go_sem, Nat.reduceBEq, Nat.reduceAdd, ww])
  (refine uJ rfl (fun hc => ?_) fun hc => ?_)
  · have hi' : i < s.length := by omega
    have hgi : s.getD i 0 = s[i] := by rw [c1z, c1n hi']; rfl
    (repeat first | refine uA ?_ | (refine uK ?_ ?_; focus first | omega | (intros; simp_all <;> omega)) | simp (disch := omega) only [go_sem, Nat.reduceBEq, Nat.reduceAdd, ww, D7, Q7, hgi, c1x])
    refine S.cond rfl (fun hc => ?_) (fun hc => ?_)
    · have hl : X4 s[i] = false := by
        unfold X4
        simp only [c2d, c1v] at hc
        rw [Bool.and_eq_false_iff, c1A, c1A]
        omega
      rw [b0g hi' hl]
      (repeat first | refine uA ?_ | (refine uK ?_ ?_; focus first | omega | (intros; simp_all <;> omega)) | simp (disch := omega) only [go_sem, Nat.reduceBEq, Nat.reduceAdd, ww])
      exact S.done (j3.out rfl (Imp.refl rfl) rfl)
    · have hl : X4 s[i] = true := by
        unfold X4
        simp only [c1J, c1A] at hc
        rw [c1t, c1v, c1v]
        omega
      (repeat first | refine uA ?_ | (refine uK ?_ ?_; focus first | omega | (intros; simp_all <;> omega)) | simp (disch := omega) only [go_sem, Nat.reduceBEq, Nat.reduceAdd, ww])
      refine S.next (i + 1) ⟨by omega, fun j h hj => ?_⟩ (by omega) (by (repeat first | refine uA ?_ | (refine ⟨?_, ?_⟩; focus first | rfl | simp [slot]) | rfl | simp))
      rcases c1Q j i with h1 | h1
      · exact hg j h h1
      · have : j = i := by omega
        subst this
        exact hl
  · have hi' : i = s.length := by omega
    subst hi'
    have e1 : decide ((1 : Int) <= (s.length : Int)) = decide (1 <= s.length) := decide_eq_decide.2 (by omega)
    have e2 : decide ((s.length : Int) <= 12) = decide (s.length <= 12) := decide_eq_decide.2 (by omega)
    rw [b1y fun j h => hg j h h]
    (repeat first | refine uA ?_ | (refine uK ?_ ?_; focus first | omega | (intros; simp_all <;> omega)) | simp (disch := omega) only [go_sem, Nat.reduceBEq, Nat.reduceAdd, ww, D7, e1, e2])
    (try simp only [e1, e2, go_sem])
    exact S.done (j3.out rfl (Imp.refl rfl) rfl)
theorem b8N (s : List UInt8) (hs : s.length <= 1099511627776) : F7 Tryz.prog 7 [sb s] (.v (.bool (a1n s))) := by
  refine kS Tryz.func7 (by cbv) (by rfl) fun w O => ?_
  simp only [j6, sb]
  (repeat first | refine uA ?_ | (refine uK ?_ ?_; focus first | omega | (intros; simp_all <;> omega)) | simp (disch := omega) only [go_sem, Nat.reduceBEq, Nat.reduceAdd, ww, D7])
  refine S.loop (X := Nat) (fun i => ⟨[(0, sb s), (5, ints s.length), (6, ints i)], []⟩) (fun i => i <= s.length /\ ∀ j (h : j < s.length), j < i -> X4 s[j] = true) (fun i => s.length - i) 0 ⟨c1u _, fun _ _ h => absurd h (Nat.not_lt_zero _)⟩ (by (repeat first | refine uA ?_ | (refine ⟨?_, ?_⟩; focus first | rfl | simp [slot]) | rfl | simp)) ?_
  rintro i ⟨hi, hg⟩
  simp only [sb, ints]
  (repeat first | refine uA ?_ | (refine uK ?_ ?_; focus first | omega | (intros; simp_all <;> omega)) | simp (disch := omega) only [go_sem, Nat.reduceBEq, Nat.reduceAdd, ww])
  (refine uJ rfl (fun hc => ?_) fun hc => ?_)
  · have hi' : i < s.length := by omega
    have hgi : s.getD i 0 = s[i] := by rw [c1z, c1n hi']; rfl
    (repeat first | refine uA ?_ | (refine uK ?_ ?_; focus first | omega | (intros; simp_all <;> omega)) | simp (disch := omega) only [go_sem, Nat.reduceBEq, Nat.reduceAdd, ww, D7, Q7, hgi, c1x])
    refine S.cond rfl (fun hc => ?_) (fun hc => ?_)
    · have hl : X4 s[i] = false := by
        unfold X4
        simp only [c2d, c1v] at hc
        rw [Bool.and_eq_false_iff, c1A, c1A]
        omega
      rw [b0g hi' hl]
      (repeat first | refine uA ?_ | (refine uK ?_ ?_; focus first | omega | (intros; simp_all <;> omega)) | simp (disch := omega) only [go_sem, Nat.reduceBEq, Nat.reduceAdd, ww])
      exact S.done (j3.out rfl (Imp.refl rfl) rfl)
    · have hl : X4 s[i] = true := by
        unfold X4
        simp only [c1J, c1A] at hc
        rw [c1t, c1v, c1v]
        omega
      (repeat first | refine uA ?_ | (refine uK ?_ ?_; focus first | omega | (intros; simp_all <;> omega)) | simp (disch := omega) only [go_sem, Nat.reduceBEq, Nat.reduceAdd, ww])
      refine S.next (i + 1) ⟨by omega, fun j h hj => ?_⟩ (by omega) (by (repeat first | refine uA ?_ | (refine ⟨?_, ?_⟩; focus first | rfl | simp [slot]) | rfl | simp))
      rcases c1Q j i with h1 | h1
      · exact hg j h h1
      · have : j = i := by omega
        subst this
        exact hl
  · have hi' : i = s.length := by omega
    subst hi'
    have e1 : decide ((1 : Int) <= (s.length : Int)) = decide (1 <= s.length) := decide_eq_decide.2 (by omega)
    have e2 : decide ((s.length : Int) <= 12) = decide (s.length <= 12) := decide_eq_decide.2 (by omega)
    rw [b1y fun j h => hg j h h]
    (repeat first | refine uA ?_ | (refine uK ?_ ?_; focus first | omega | (intros; simp_all <;> omega)) | simp (disch := omega) only [go_sem, Nat.reduceBEq, Nat.reduceAdd, ww, D7, e1, e2])
    (try simp only [e1, e2, go_sem])
    exact S.done (j3.out rfl (Imp.refl rfl) rfl)
theorem a7V (l : List Nm.Rt) (hl : Rbs 17179869184 l) : FZ 141 [rts l] (.v (.bool (l.all j4))) := by
  refine kW Tryz.func141 (by cbv) (by rfl) fun w O hw => ?_
  obtain ⟨hn, hb⟩ := hl
  simp only [j6, rts]
  (repeat first | refine uA ?_ | (refine uK ?_ ?_; focus first | omega | (intros; simp_all <;> omega)) | simp (disch := omega) only [go_sem, Nat.reduceBEq, Nat.reduceAdd, ww, c1o])
  refine S.loop (X := Nat) (fun i => ⟨[(5, rts l), (6, ints l.length), (7, ints i)], []⟩) (fun i => i <= l.length /\ l.all j4 = (l.drop i).all j4) (fun i => l.length - i) 0 ⟨c1u _, rfl⟩ (by (repeat first | refine uA ?_ | (refine ⟨?_, ?_⟩; focus first | rfl | simp [slot]) | rfl | simp)) ?_
  rintro i ⟨hi, hg⟩
  simp only [rts, ints]
  (repeat first | refine uA ?_ | (refine uK ?_ ?_; focus first | omega | (intros; simp_all <;> omega)) | simp (disch := omega) only [go_sem, Nat.reduceBEq, Nat.reduceAdd, ww])
  (refine uJ rfl (fun hc => ?_) fun hc => ?_)
  · have hi' : i < l.length := by omega
    have hgi := c1n hi'
    generalize l[i] = x at hgi
    have hd := drop_at hgi
    have hs := a3x x (hb x (c1q hgi))
    simp only [rc] at hs
    simp only [sb] at hs
    (repeat first | refine uA ?_ | (refine uK ?_ ?_; focus first | omega | (intros; simp_all <;> omega)) | simp (disch := omega) only [go_sem, Nat.reduceBEq, Nat.reduceAdd, ww, hgi, c1p, c1o, rcs, sb] | (refine uD hs ?_ ?_ ?_; exact tz hw; exact rfl))
    refine S.cond rfl (fun hc => ?_) (fun hc => ?_)
    · have : l.all j4 = false := by
        rw [hg, hd, List.all_cons]
        simp only [Bool.not_eq_true'] at hc
        rw [hc]; rfl
      rw [this]
      (repeat first | refine uA ?_ | (refine uK ?_ ?_; focus first | omega | (intros; simp_all <;> omega)) | simp (disch := omega) only [go_sem, Nat.reduceBEq, Nat.reduceAdd, ww])
      exact S.done (j3.out rfl (Imp.refl rfl) rfl)
    · (repeat first | refine uA ?_ | (refine uK ?_ ?_; focus first | omega | (intros; simp_all <;> omega)) | simp (disch := omega) only [go_sem, Nat.reduceBEq, Nat.reduceAdd, ww])
      refine S.next (i + 1) ⟨by omega, ?_⟩ (by omega) (by (repeat first | refine uA ?_ | (refine ⟨?_, ?_⟩; focus first | rfl | simp [slot]) | rfl | simp))
      rw [hg, hd, List.all_cons]
      simp only [Bool.not_eq_false'] at hc
      rw [hc]; rfl
  · have : l.all j4 = true := by rw [hg, List.drop_eq_nil_of_le (by omega)]; rfl
    rw [this]
    (repeat first | refine uA ?_ | (refine uK ?_ ?_; focus first | omega | (intros; simp_all <;> omega)) | simp (disch := omega) only [go_sem, Nat.reduceBEq, Nat.reduceAdd, ww])
    exact S.done (j3.out rfl (Imp.refl rfl) rfl)
namespace Eng
def frS (fr : List (Nat × C)) : List (Nat × C) -> Prop
 | [] => True
 | (t, s) :: r => (s = .junk \/ slot fr t = s) /\ frS fr r
theorem b2y {fr : List (Nat × C)} : ∀ {fr' : List (Nat × C)}, frS fr fr' -> ∀ t, slot fr' t = .junk \/ slot fr t = slot fr' t
 | [], _, t => .inl rfl
 | (u, s) :: r, h, t => by
  simp only [slot]
  cases hb : (u == t) with
  | true =>
   have : u = t := by simpa using hb
   subst this
   exact h.1
  | false => exact b2y h.2 t
theorem Ent.fr {E : Ctx} {fr fr' : List (Nat × C)} {rs rs' : List Res} (h : rs = rs') (hf : frS fr fr') : Ent E ⟨fr, rs⟩ ⟨fr', rs'⟩ := by
 subst h
 intro wf ν a w hG
 refine ⟨ν, hG.dfr, hG.size, fun t => ?_, hG.rg, hG.frm, hG.nu⟩
 rcases b2y hf t with e | e
 ·rw [e]; simp only [Den]
 ·rw [<- e]; exact hG.fr t
end Eng
def a3a {α : Type} (p : α -> Bool) (l : List α) : Int := match l.findIdx? p with | some i => i | none => -1
theorem a8f {α : Type} {p : α -> Bool} {l : List α} {i : Nat} {x : α} (h : l[i]? = some x) (hp : p x = true) (hm : ∀ j, j < i -> ∀ y, l[j]? = some y -> p y = false) : a3a p l = i := by
 obtain ⟨hi, rfl⟩ := c1r.1 h
 have : l.findIdx? p = some i := by
  rw [List.findIdx?_eq_some_iff_getElem]
  refine ⟨hi, hp, fun j hj => ?_⟩
  simp [hm j hj l[j] (c1n _)]
 unfold a3a
 rw [this]
theorem a6F {α : Type} {p : α -> Bool} {l : List α} (hm : ∀ j, j < l.length -> ∀ y, l[j]? = some y -> p y = false) : a3a p l = -1 := by
 have : l.findIdx? p = none := by
  rw [List.findIdx?_eq_none_iff]
  intro x hx
  obtain ⟨j, hj⟩ := List.mem_iff_getElem?.1 hx
  exact hm j (c1r.1 hj).1 x hj
 unfold a3a
 rw [this]
theorem a8i {α : Type} (p : α -> Bool) (l : List α) : decide (0 <= a3a p l) = l.any p := by
 unfold a3a
 cases h : l.findIdx? p with
 | none =>
  rw [List.findIdx?_eq_none_iff] at h
  have : l.any p = false := by rw [List.any_eq_false]; intro x hx; simp [h x hx]
  rw [this]; rfl
 | some i =>
  rw [List.findIdx?_eq_some_iff_getElem] at h
  obtain ⟨h1, h2, _⟩ := h
  have : l.any p = true := by rw [List.any_eq_true]; exact ⟨_, c1B h1, h2⟩
  rw [this]
  exact decide_eq_true (show (0 : Int) <= (i : Int) by omega)
theorem b6Y (g : Nat) (hcal : callable Tryz.prog g = true) (p : Vt -> Bool) (l : List Vt) (hn : l.length <= 1099511627776) (hg : ∀ x ∈ l, FZ g [x.c] (.v (.bool (p x)))) :
  FZ 174 [vts l, .v (.func (.func g) #[] #[])] (ints (a3a p l)) := by
 refine kW Tryz.func174 (by cbv) (by rfl) fun w O hw => ?_
 simp only [j6, vts]
 (repeat first | refine uA ?_ | (refine uK ?_ ?_; focus first | omega | (intros; simp_all <;> omega)) | simp (disch := omega) only [go_sem, Nat.reduceBEq, Nat.reduceAdd, ww, c1o])
 refine S.loop (X := Nat) (fun i => ⟨[(0, vts l), (1, .v (.func (.func g) #[] #[])), (7, ints l.length), (8, ints i)], []⟩) (fun i => i <= l.length /\ ∀ j, j < i -> ∀ x, l[j]? = some x -> p x = false) (fun i => l.length - i) 0 ⟨c1u _, fun _ h => absurd h (Nat.not_lt_zero _)⟩ (by (repeat first | refine uA ?_ | (refine ⟨?_, ?_⟩; focus first | rfl | simp [slot]) | rfl | simp)) ?_
 rintro i ⟨hi, hm⟩
 simp only [vts, ints]
 (repeat first | refine uA ?_ | (refine uK ?_ ?_; focus first | omega | (intros; simp_all <;> omega)) | simp (disch := omega) only [go_sem, Nat.reduceBEq, Nat.reduceAdd, ww])
 (refine uJ rfl (fun hc => ?_) fun hc => ?_)
 ·have hi' : i < l.length := by omega
  have hgi := c1n hi'
  generalize l[i] = x at hgi
  have hs := hg x (c1q hgi)
  simp only [Vt.c, Vt.enc, sb] at hs
  (repeat first | refine uA ?_ | (refine uK ?_ ?_; focus first | omega | (intros; simp_all <;> omega)) | simp (disch := omega) only [go_sem, Nat.reduceBEq, Nat.reduceAdd, ww, hgi, c1p, c1o, Vt.c, Vt.enc, sb, c1x, hcal] | (refine uD hs ?_ ?_ ?_; exact tz hw; exact rfl))
  refine S.cond rfl (fun hc2 => ?_) (fun hc2 => ?_)
  ·rw [a8f hgi hc2 hm]
   (repeat first | refine uA ?_ | (refine uK ?_ ?_; focus first | omega | (intros; simp_all <;> omega)) | simp (disch := omega) only [go_sem, Nat.reduceBEq, Nat.reduceAdd, ww])
   exact S.done (j3.out rfl (Imp.refl rfl) rfl)
  ·(repeat first | refine uA ?_ | (refine uK ?_ ?_; focus first | omega | (intros; simp_all <;> omega)) | simp (disch := omega) only [go_sem, Nat.reduceBEq, Nat.reduceAdd, ww])
   refine S.next (i + 1) ⟨by omega, fun j hj y hy => ?_⟩ (by omega) (by (repeat first | refine uA ?_ | (refine ⟨?_, ?_⟩; focus first | rfl | simp [slot]) | rfl | simp))
   rcases c1Q j i with h1 | h1
   ·exact hm j h1 y hy
   ·have : j = i := by omega
    subst this
    rw [hgi] at hy
    cases hy
    exact hc2
 ·have hi' : i = l.length := by omega
  subst hi'
  rw [a6F hm]
  (repeat first | refine uA ?_ | (refine uK ?_ ?_; focus first | omega | (intros; simp_all <;> omega)) | simp (disch := omega) only [go_sem, Nat.reduceBEq, Nat.reduceAdd, ww])
  exact S.done (j3.out rfl (Imp.refl rfl) rfl)
theorem b1J (g : Nat) (hcal : callable Tryz.prog g = true) (p : Vt -> Bool) (l : List Vt) (hn : l.length <= 1099511627776) (hg : ∀ x ∈ l, FZ g [x.c] (.v (.bool (p x)))) :
  FZ 114 [vts l, .v (.func (.func g) #[] #[])] (.v (.bool (l.any p))) := by
 refine kW Tryz.func114 (by cbv) (by rfl) fun w O hw => ?_
 have h := b6Y g hcal p l hn hg
 have e := a8i p l
 generalize a3a p l = n at *
 simp only [j6]
 simp only [vts, ints] at *
 (repeat first | refine uA ?_ | (refine uK ?_ ?_; focus first | omega | (intros; simp_all <;> omega)) | simp (disch := omega) only [go_sem, Nat.reduceBEq, Nat.reduceAdd, ww] | (refine uD h ?_ ?_ ?_; exact tz hw; exact rfl))
 rw [e]
 exact S.done (j3.out rfl (Imp.refl rfl) rfl)
theorem b7m (g : Nat) (hcal : callable Tryz.prog g = true) (p : Nm.Rt -> Bool) (l : List Nm.Rt) (hn : l.length <= 1099511627776) (hg : ∀ x ∈ l, FZ g [rc x] (.v (.bool (p x)))) :
  FZ 186 [rts l, .v (.func (.func g) #[] #[])] (ints (a3a p l)) := by
 refine kW Tryz.func186 (by cbv) (by rfl) fun w O hw => ?_
 simp only [j6, rts]
 (repeat first | refine uA ?_ | (refine uK ?_ ?_; focus first | omega | (intros; simp_all <;> omega)) | simp (disch := omega) only [go_sem, Nat.reduceBEq, Nat.reduceAdd, ww, c1o])
 refine S.loop (X := Nat) (fun i => ⟨[(0, rts l), (1, .v (.func (.func g) #[] #[])), (7, ints l.length), (8, ints i)], []⟩) (fun i => i <= l.length /\ ∀ j, j < i -> ∀ x, l[j]? = some x -> p x = false) (fun i => l.length - i) 0 ⟨c1u _, fun _ h => absurd h (Nat.not_lt_zero _)⟩ (by (repeat first | refine uA ?_ | (refine ⟨?_, ?_⟩; focus first | rfl | simp [slot]) | rfl | simp)) ?_
 rintro i ⟨hi, hm⟩
 simp only [rts, ints]
 (repeat first | refine uA ?_ | (refine uK ?_ ?_; focus first | omega | (intros; simp_all <;> omega)) | simp (disch := omega) only [go_sem, Nat.reduceBEq, Nat.reduceAdd, ww])
 (refine uJ rfl (fun hc => ?_) fun hc => ?_)
 ·have hi' : i < l.length := by omega
  have hgi := c1n hi'
  generalize l[i] = x at hgi
  have hs := hg x (c1q hgi)
  simp only [rc, rcs, sb] at hs
  (repeat first | refine uA ?_ | (refine uK ?_ ?_; focus first | omega | (intros; simp_all <;> omega)) | simp (disch := omega) only [go_sem, Nat.reduceBEq, Nat.reduceAdd, ww, hgi, c1p, c1o, rc, rcs, sb, c1x, hcal] | (refine uD hs ?_ ?_ ?_; exact tz hw; exact rfl))
  refine S.cond rfl (fun hc2 => ?_) (fun hc2 => ?_)
  ·rw [a8f hgi hc2 hm]
   (repeat first | refine uA ?_ | (refine uK ?_ ?_; focus first | omega | (intros; simp_all <;> omega)) | simp (disch := omega) only [go_sem, Nat.reduceBEq, Nat.reduceAdd, ww])
   exact S.done (j3.out rfl (Imp.refl rfl) rfl)
  ·(repeat first | refine uA ?_ | (refine uK ?_ ?_; focus first | omega | (intros; simp_all <;> omega)) | simp (disch := omega) only [go_sem, Nat.reduceBEq, Nat.reduceAdd, ww])
   refine S.next (i + 1) ⟨by omega, fun j hj y hy => ?_⟩ (by omega) (by (repeat first | refine uA ?_ | (refine ⟨?_, ?_⟩; focus first | rfl | simp [slot]) | rfl | simp))
   rcases c1Q j i with h1 | h1
   ·exact hm j h1 y hy
   ·have : j = i := by omega
    subst this
    rw [hgi] at hy
    cases hy
    exact hc2
 ·have hi' : i = l.length := by omega
  subst hi'
  rw [a6F hm]
  (repeat first | refine uA ?_ | (refine uK ?_ ?_; focus first | omega | (intros; simp_all <;> omega)) | simp (disch := omega) only [go_sem, Nat.reduceBEq, Nat.reduceAdd, ww])
  exact S.done (j3.out rfl (Imp.refl rfl) rfl)
theorem b7a (g : Nat) (hcal : callable Tryz.prog g = true) (p : Nm.Rt -> Bool) (l : List Nm.Rt) (hn : l.length <= 1099511627776) (hg : ∀ x ∈ l, FZ g [rc x] (.v (.bool (p x)))) :
  FZ 127 [rts l, .v (.func (.func g) #[] #[])] (.v (.bool (l.any p))) := by
 refine kW Tryz.func127 (by cbv) (by rfl) fun w O hw => ?_
 have h := b7m g hcal p l hn hg
 have e := a8i p l
 generalize a3a p l = n at *
 simp only [j6]
 simp only [rts, ints] at *
 (repeat first | refine uA ?_ | (refine uK ?_ ?_; focus first | omega | (intros; simp_all <;> omega)) | simp (disch := omega) only [go_sem, Nat.reduceBEq, Nat.reduceAdd, ww] | (refine uD h ?_ ?_ ?_; exact tz hw; exact rfl))
 rw [e]
 exact S.done (j3.out rfl (Imp.refl rfl) rfl)
theorem b5p (g : Nat) (hcal : callable Tryz.prog g = true) (p : Fr -> Bool) (l : List Fr) (hn : l.length <= 1099511627776) (hg : ∀ x ∈ l, FZ g [x.c] (.v (.bool (p x)))) :
  FZ 173 [frs l, .v (.func (.func g) #[] #[])] (ints (a3a p l)) := by
 refine kW Tryz.func173 (by cbv) (by rfl) fun w O hw => ?_
 simp only [j6, frs]
 (repeat first | refine uA ?_ | (refine uK ?_ ?_; focus first | omega | (intros; simp_all <;> omega)) | simp (disch := omega) only [go_sem, Nat.reduceBEq, Nat.reduceAdd, ww, c1o])
 refine S.loop (X := Nat) (fun i => ⟨[(0, frs l), (1, .v (.func (.func g) #[] #[])), (7, ints l.length), (8, ints i)], []⟩) (fun i => i <= l.length /\ ∀ j, j < i -> ∀ x, l[j]? = some x -> p x = false) (fun i => l.length - i) 0 ⟨c1u _, fun _ h => absurd h (Nat.not_lt_zero _)⟩ (by (repeat first | refine uA ?_ | (refine ⟨?_, ?_⟩; focus first | rfl | simp [slot]) | rfl | simp)) ?_
 rintro i ⟨hi, hm⟩
 simp only [frs, ints]
 (repeat first | refine uA ?_ | (refine uK ?_ ?_; focus first | omega | (intros; simp_all <;> omega)) | simp (disch := omega) only [go_sem, Nat.reduceBEq, Nat.reduceAdd, ww])
 (refine uJ rfl (fun hc => ?_) fun hc => ?_)
 ·have hi' : i < l.length := by omega
  have hgi := c1n hi'
  generalize l[i] = x at hgi
  have hs := hg x (c1q hgi)
  simp only [Fr.c, Fr.enc, sb] at hs
  (repeat first | refine uA ?_ | (refine uK ?_ ?_; focus first | omega | (intros; simp_all <;> omega)) | simp (disch := omega) only [go_sem, Nat.reduceBEq, Nat.reduceAdd, ww, hgi, c1p, c1o, Fr.c, Fr.enc, sb, c1x, hcal] | (refine uD hs ?_ ?_ ?_; exact tz hw; exact rfl))
  refine S.cond rfl (fun hc2 => ?_) (fun hc2 => ?_)
  ·rw [a8f hgi hc2 hm]
   (repeat first | refine uA ?_ | (refine uK ?_ ?_; focus first | omega | (intros; simp_all <;> omega)) | simp (disch := omega) only [go_sem, Nat.reduceBEq, Nat.reduceAdd, ww])
   exact S.done (j3.out rfl (Imp.refl rfl) rfl)
  ·(repeat first | refine uA ?_ | (refine uK ?_ ?_; focus first | omega | (intros; simp_all <;> omega)) | simp (disch := omega) only [go_sem, Nat.reduceBEq, Nat.reduceAdd, ww])
   refine S.next (i + 1) ⟨by omega, fun j hj y hy => ?_⟩ (by omega) (by (repeat first | refine uA ?_ | (refine ⟨?_, ?_⟩; focus first | rfl | simp [slot]) | rfl | simp))
   rcases c1Q j i with h1 | h1
   ·exact hm j h1 y hy
   ·have : j = i := by omega
    subst this
    rw [hgi] at hy
    cases hy
    exact hc2
 ·have hi' : i = l.length := by omega
  subst hi'
  rw [a6F hm]
  (repeat first | refine uA ?_ | (refine uK ?_ ?_; focus first | omega | (intros; simp_all <;> omega)) | simp (disch := omega) only [go_sem, Nat.reduceBEq, Nat.reduceAdd, ww])
  exact S.done (j3.out rfl (Imp.refl rfl) rfl)
theorem b4D (g : Nat) (hcal : callable Tryz.prog g = true) (p : Fr -> Bool) (l : List Fr) (hn : l.length <= 1099511627776) (hg : ∀ x ∈ l, FZ g [x.c] (.v (.bool (p x)))) :
  FZ 111 [frs l, .v (.func (.func g) #[] #[])] (.v (.bool (l.any p))) := by
 refine kW Tryz.func111 (by cbv) (by rfl) fun w O hw => ?_
 have h := b5p g hcal p l hn hg
 have e := a8i p l
 generalize a3a p l = n at *
 simp only [j6]
 simp only [frs, ints] at *
 (repeat first | refine uA ?_ | (refine uK ?_ ?_; focus first | omega | (intros; simp_all <;> omega)) | simp (disch := omega) only [go_sem, Nat.reduceBEq, Nat.reduceAdd, ww] | (refine uD h ?_ ?_ ?_; exact tz hw; exact rfl))
 rw [e]
 exact S.done (j3.out rfl (Imp.refl rfl) rfl)
set_option maxHeartbeats 8000000
theorem b7t {α : Type} (p : α -> Bool) (a b c d e : α) : [a, b, c, d, e].all p = (p a && p b && p c && p d && p e) := by simp [Bool.and_assoc]
theorem b0d {α : Type} (p : α -> Bool) (a b c : α) : [a, b, c].all p = (p a && p b && p c) := by simp [Bool.and_assoc]
theorem a9J {α : Type} (p : α -> Bool) (a b : α) : [a, b].all p = (p a && p b) := by simp
theorem Rbs.five {k : Nat} {a b c d e : Nm.Rt} (h : 5 <= k) (h1 : Rb k a) (h2 : Rb k b) (h3 : Rb k c) (h4 : Rb k d) (h5 : Rb k e) : Rbs k [a, b, c, d, e] := ⟨h, fun x hx => by simp at hx; rcases hx with rfl | rfl | rfl | rfl | rfl <;> assumption⟩
theorem Rbs.three {k : Nat} {a b c : Nm.Rt} (h : 3 <= k) (h1 : Rb k a) (h2 : Rb k b) (h3 : Rb k c) : Rbs k [a, b, c] := ⟨h, fun x hx => by simp at hx; rcases hx with rfl | rfl | rfl <;> assumption⟩
theorem Rbs.two {k : Nat} {a b : Nm.Rt} (h : 2 <= k) (h1 : Rb k a) (h2 : Rb k b) : Rbs k [a, b] := ⟨h, fun x hx => by simp at hx; rcases hx with rfl | rfl <;> assumption⟩
theorem b8I (l : Lk) (hl : Lb 1073741824 l) : FZ 142 [l.c] (ints (M7 l)) := by
  refine kW b1f b1F (by rfl) fun w O hw => ?_
  obtain ⟨length, low, high, speed, brake, shape⟩ := l
  obtain ⟨b1, b2, b3, b4, b5, b6⟩ := hl
  simp only at b1 b2 b3 b4 b5 b6
  have c1 := b1.mono (m := 17179869184) (by decide)
  have c2 := b2.mono (m := 17179869184) (by decide)
  have c3 := b3.mono (m := 17179869184) (by decide)
  have c4 := b4.mono (m := 17179869184) (by decide)
  have c5 := b5.mono (m := 17179869184) (by decide)
  have hsm := a7V _ (Rbs.five (by decide) c1 c2 c3 c4 c5)
  rw [b7t] at hsm
  have hs1 := Z4 length c1
  have hcm := X5 low high c2 c3
  have hs2 := Z4 speed c4
  have hs3 := Z4 brake c5
  have hp := a7u shape b6
  have hv := fun (v : Vt) (h : v ∈ shape) => a7V _ (Rbs.two (by decide) ((b6.2 v h).1.mono (m := 17179869184) (by decide)) ((b6.2 v h).2.mono (m := 17179869184) (by decide)))
  have hn := b6.1
  unfold M7
  simp only
  generalize (j4 length && j4 low && j4 high && j4 speed && j4 brake) = q at *
  generalize F3 (Nm.d9 length) = n1 at *
  generalize Nm.C8 (Nm.d9 low) (Nm.d9 high) = n2 at *
  generalize F3 (Nm.d9 speed) = n3 at *
  generalize F3 (Nm.d9 brake) = n4 at *
  generalize R4 shape 8 = n5 at *
  simp only [a6s, j6, TT, II, OA, OB, OC, MM, LL, VV, FF, MG, LG, VG, FG]
  simp only [Lk.c, Lk.enc, rc, rts, rcs, vts, sb, ints, c1F, c2b] at *
  (repeat first | refine uG hs1 ?_ | refine uG hcm ?_ | refine uG hsm ?_ | refine uA ?_ | (refine uK ?_ ?_; focus first | omega | (intros; simp_all <;> omega)) | simp (disch := omega) only [go_sem, Nat.reduceBEq, Nat.reduceAdd, ww] | (refine uD hs1 ?_ ?_ ?_; exact tz hw; exact rfl) | (refine uD hcm ?_ ?_ ?_; exact tz hw; exact rfl) | (refine uE hsm ?_ ?_ ?_ ?_; exact tz hw; exact rfl; focus (repeat' first | exact p8.nil | exact Imp.refl rfl | exact Imp.frz rfl rfl rfl | (refine Imp.a0x rfl rfl ?_ ?_; (focus ((try simp only [c1C]); omega)); (focus first | rfl | assumption)) | refine p8.cons ?_ ?_); done))
  refine S.cond rfl (fun hc => ?_) (fun hc => ?_)
  · rw [if_pos (by simp only [c2d, Bool.not_eq_true', c1v] at hc; rcases hc with (hc | hc) | hc <;> simp [hc])]
    (repeat first | refine uA ?_ | (refine uK ?_ ?_; focus first | omega | (intros; simp_all <;> omega)) | simp (disch := omega) only [go_sem, Nat.reduceBEq, Nat.reduceAdd, ww])
    exact S.done (j3.out rfl (Imp.refl rfl) rfl)
  rw [if_neg (by simp only [c1J, Bool.not_eq_false', c1A] at hc; simp [hc])]
  (repeat first | refine uG hs2 ?_ | refine uG hs3 ?_ | refine uA ?_ | (refine uK ?_ ?_; focus first | omega | (intros; simp_all <;> omega)) | simp (disch := omega) only [go_sem, Nat.reduceBEq, Nat.reduceAdd, ww] | (refine uD hs2 ?_ ?_ ?_; exact tz hw; exact rfl) | (refine uD hs3 ?_ ?_ ?_; exact tz hw; exact rfl))
  refine S.cond rfl (fun hc => ?_) (fun hc => ?_)
  · rw [if_pos (by simp only [c2d, c1v] at hc; exact hc)]
    (repeat first | refine uA ?_ | (refine uK ?_ ?_; focus first | omega | (intros; simp_all <;> omega)) | simp (disch := omega) only [go_sem, Nat.reduceBEq, Nat.reduceAdd, ww])
    exact S.done (j3.out rfl (Imp.refl rfl) rfl)
  rw [if_neg (by simp only [c1J, c1A] at hc; simp [hc])]
  (repeat first | refine uG hp ?_ | refine uA ?_ | (refine uK ?_ ?_; focus first | omega | (intros; simp_all <;> omega)) | simp (disch := omega) only [go_sem, Nat.reduceBEq, Nat.reduceAdd, ww] | (refine uD hp ?_ ?_ ?_; exact tz hw; exact rfl))
  refine S.cond rfl (fun hc => ?_) (fun hc => ?_)
  · rw [if_pos (by simpa using hc)]
    (repeat first | refine uA ?_ | (refine uK ?_ ?_; focus first | omega | (intros; simp_all <;> omega)) | simp (disch := omega) only [go_sem, Nat.reduceBEq, Nat.reduceAdd, ww])
    exact S.done (j3.out rfl (Imp.refl rfl) rfl)
  rw [if_neg (by simpa using hc)]
  (repeat first | refine uA ?_ | (refine uK ?_ ?_; focus first | omega | (intros; simp_all <;> omega)) | simp (disch := omega) only [go_sem, Nat.reduceBEq, Nat.reduceAdd, ww, c1o])
  refine S.loop (X := Nat) (fun i => ⟨[(50, vts shape), (51, ints shape.length), (52, ints i)], []⟩) (fun i => i <= shape.length /\ (shape.all fun v => j4 v.x && j4 v.y) = (shape.drop i).all fun v => j4 v.x && j4 v.y) (fun i => shape.length - i) 0 ⟨c1u _, rfl⟩ (by (repeat first | refine uA ?_ | (refine ⟨?_, ?_⟩; focus first | rfl | simp [slot]) | rfl | simp)) ?_
  rintro i ⟨hi, hg⟩
  simp only [vts, ints]
  (repeat first | refine uA ?_ | (refine uK ?_ ?_; focus first | omega | (intros; simp_all <;> omega)) | simp (disch := omega) only [go_sem, Nat.reduceBEq, Nat.reduceAdd, ww])
  (refine uJ rfl (fun hc => ?_) fun hc => ?_)
  · have hi' : i < shape.length := by omega
    have hgi := c1n hi'
    generalize shape[i] = x at hgi
    have hd := drop_at hgi
    have hs := hv x (c1q hgi)
    rw [a9J] at hs
    (repeat first | refine uG hs ?_ | refine uA ?_ | (refine uK ?_ ?_; focus first | omega | (intros; simp_all <;> omega)) | simp (disch := omega) only [go_sem, Nat.reduceBEq, Nat.reduceAdd, ww, hgi, c1p, c1o, Vt.enc, sb] | (refine uE hs ?_ ?_ ?_ ?_; exact tz hw; exact rfl; focus (repeat' first | exact p8.nil | exact Imp.refl rfl | exact Imp.frz rfl rfl rfl | (refine Imp.a0x rfl rfl ?_ ?_; (focus ((try simp only [c1C, hgi, c1p, c1o, Vt.enc, sb]); omega)); (focus first | rfl | assumption)) | refine p8.cons ?_ ?_); done))
    refine S.cond rfl (fun hc2 => ?_) (fun hc2 => ?_)
    · have : (shape.all fun v => j4 v.x && j4 v.y) = false := by
        rw [hg, hd, List.all_cons]
        simp only [Bool.not_eq_true'] at hc2
        rw [hc2]; rfl
      rw [this]
      (repeat first | refine uA ?_ | (refine uK ?_ ?_; focus first | omega | (intros; simp_all <;> omega)) | simp (disch := omega) only [go_sem, Nat.reduceBEq, Nat.reduceAdd, ww])
      exact S.done (j3.out rfl (Imp.refl rfl) rfl)
    · (repeat first | refine uA ?_ | (refine uK ?_ ?_; focus first | omega | (intros; simp_all <;> omega)) | simp (disch := omega) only [go_sem, Nat.reduceBEq, Nat.reduceAdd, ww])
      refine S.next (i + 1) ⟨by omega, ?_⟩ (by omega) (by (repeat first | refine uA ?_ | (refine ⟨?_, ?_⟩; focus first | rfl | simp [slot]) | rfl | simp))
      rw [hg, hd, List.all_cons]
      simp only [Bool.not_eq_false'] at hc2
      rw [hc2]; rfl
  · have : (shape.all fun v => j4 v.x && j4 v.y) = true := by rw [hg, List.drop_eq_nil_of_le (by omega)]; rfl
    rw [this]
    (repeat first | refine uA ?_ | (refine uK ?_ ?_; focus first | omega | (intros; simp_all <;> omega)) | simp (disch := omega) only [go_sem, Nat.reduceBEq, Nat.reduceAdd, ww])
    exact S.done (j3.out rfl (Imp.refl rfl) rfl)
theorem b2M (a : Am) (hl : Ab 1073741824 a) : FZ 49 [a.c] (ints (J6 a)) := by
 refine kW b2x b1L (by rfl) fun w O hw => ?_
 obtain ⟨name, ⟨x, y, half, t⟩, links⟩ := a
 obtain ⟨b0, ⟨b1, b2, b3⟩, hn, hb⟩ := hl
 simp only at b0 b1 b2 b3 hn hb
 have c1 := b1.mono (m := 17179869184) (by decide)
 have c2 := b2.mono (m := 17179869184) (by decide)
 have c3 := b3.mono (m := 17179869184) (by decide)
 have hnm := b8c name (by omega)
 have hsm := a7V _ (Rbs.three (by decide) c1 c2 c3)
 rw [b0d] at hsm
 have hs := Z4 t c3
 unfold J6 a4z
 simp only
 generalize a1n name = q0 at *
 generalize (j4 x && j4 y && j4 t) = q at *
 generalize F3 (Nm.d9 t) = n1 at *
 simp only [a6e, j6, TT, II, OA, OB, OC, MM, LL, VV, FF, MG, LG, VG, FG]
 simp only [Am.c, Am.enc, rc, rts, rcs, lks, sb, ints, c1F, c2b] at *
 (repeat first | refine uF hnm ?_ | refine uA ?_ | (refine uK ?_ ?_; focus first | omega | (intros; simp_all <;> omega)) | simp (disch := omega) only [go_sem, Nat.reduceBEq, Nat.reduceAdd, ww] | (refine uB hnm ?_ ?_; exact rfl))
 refine S.cond rfl (fun hc => ?_) (fun hc => ?_)
 ·rw [if_pos (by simpa using hc)]
  (repeat first | refine uA ?_ | (refine uK ?_ ?_; focus first | omega | (intros; simp_all <;> omega)) | simp (disch := omega) only [go_sem, Nat.reduceBEq, Nat.reduceAdd, ww])
  exact S.done (j3.out rfl (Imp.refl rfl) rfl)
 rw [if_neg (by simpa using hc)]
 (repeat first | refine uA ?_ | (refine uK ?_ ?_; focus first | omega | (intros; simp_all <;> omega)) | simp (disch := omega) only [go_sem, Nat.reduceBEq, Nat.reduceAdd, ww, c1o])
 refine S.cond rfl (fun hc => ?_) (fun hc => ?_)
 ·rw [if_pos (by simp only [c1v] at hc; omega)]
  (repeat first | refine uA ?_ | (refine uK ?_ ?_; focus first | omega | (intros; simp_all <;> omega)) | simp (disch := omega) only [go_sem, Nat.reduceBEq, Nat.reduceAdd, ww])
  exact S.done (j3.out rfl (Imp.refl rfl) rfl)
 rw [if_neg (by simp only [c1A] at hc; omega)]
 by_cases h0 : links.length = 0
 ·rw [if_pos (.inl h0)]
  have e0 : decide ((links.length : Int) = 0) = true := decide_eq_true (by omega)
  (repeat first | refine uG hs ?_ | refine uG hsm ?_ | refine uA ?_ | (refine uK ?_ ?_; focus first | omega | (intros; simp_all <;> omega)) | simp (disch := omega) only [go_sem, Nat.reduceBEq, Nat.reduceAdd, ww, c1o, e0] | (refine uD hs ?_ ?_ ?_; exact tz hw; exact rfl) | (refine uE hsm ?_ ?_ ?_ ?_; exact tz hw; exact rfl; focus (repeat' first | exact p8.nil | exact Imp.refl rfl | exact Imp.frz rfl rfl rfl | (refine Imp.a0x rfl rfl ?_ ?_; (focus ((try simp only [c1C, c1o, e0]); omega)); (focus first | rfl | assumption)) | refine p8.cons ?_ ?_); done))
  refine S.cond rfl (fun _ => ?_) (fun hc => by simp at hc)
  (repeat first | refine uA ?_ | (refine uK ?_ ?_; focus first | omega | (intros; simp_all <;> omega)) | simp (disch := omega) only [go_sem, Nat.reduceBEq, Nat.reduceAdd, ww])
  exact S.done (j3.out rfl (Imp.refl rfl) rfl)
 have e0 : decide ((links.length : Int) = 0) = false := decide_eq_false (by omega)
 (repeat first | refine uG hs ?_ | refine uG hsm ?_ | refine uA ?_ | (refine uK ?_ ?_; focus first | omega | (intros; simp_all <;> omega)) | simp (disch := omega) only [go_sem, Nat.reduceBEq, Nat.reduceAdd, ww, c1o, e0] | (refine uD hs ?_ ?_ ?_; exact tz hw; exact rfl) | (refine uE hsm ?_ ?_ ?_ ?_; exact tz hw; exact rfl; focus (repeat' first | exact p8.nil | exact Imp.refl rfl | exact Imp.frz rfl rfl rfl | (refine Imp.a0x rfl rfl ?_ ?_; (focus ((try simp only [c1C, c1o, e0]); omega)); (focus first | rfl | assumption)) | refine p8.cons ?_ ?_); done))
 refine S.cond rfl (fun hc => ?_) (fun hc => ?_)
 ·rw [if_pos (by simp only [c2d, Bool.not_eq_true', c1v] at hc; rcases hc with hc | hc; (· exact .inr (.inl hc)); (· exact .inr (.inr (by cases half <;> simp_all))))]
  (repeat first | refine uA ?_ | (refine uK ?_ ?_; focus first | omega | (intros; simp_all <;> omega)) | simp (disch := omega) only [go_sem, Nat.reduceBEq, Nat.reduceAdd, ww])
  exact S.done (j3.out rfl (Imp.refl rfl) rfl)
 rw [if_neg (by simp only [c1J, Bool.not_eq_false', c1A] at hc; rintro (h | h | h); (· omega); (· simp_all); (· cases half <;> simp_all))]
 (repeat first | refine uA ?_ | (refine uK ?_ ?_; focus first | omega | (intros; simp_all <;> omega)) | simp (disch := omega) only [go_sem, Nat.reduceBEq, Nat.reduceAdd, ww, c1o])
 refine S.loop (X := Nat) (fun i => ⟨[(48, lks links), (49, ints links.length), (50, ints i)], []⟩) (fun i => i <= links.length /\ G9 M7 links = G9 M7 (links.drop i)) (fun i => links.length - i) 0 ⟨c1u _, rfl⟩ (by (repeat first | refine uA ?_ | (refine ⟨?_, ?_⟩; focus first | rfl | simp [slot]) | rfl | simp)) ?_
 rintro i ⟨hi, hg⟩
 simp only [lks, ints]
 (repeat first | refine uA ?_ | (refine uK ?_ ?_; focus first | omega | (intros; simp_all <;> omega)) | simp (disch := omega) only [go_sem, Nat.reduceBEq, Nat.reduceAdd, ww])
 (refine uJ rfl (fun hc => ?_) fun hc => ?_)
 ·have hi' : i < links.length := by omega
  have hgi := c1n hi'
  generalize links[i] = x at hgi
  have hst := a1B (f := M7) hgi
  have hnx := a1y (f := M7) hgi
  have hs := b8I x (hb x (c1q hgi))
  generalize M7 x = e at *
  simp only [Lk.c, Lk.enc, vts, sb, ints] at hs
  (repeat first | refine uG hs ?_ | refine uA ?_ | (refine uK ?_ ?_; focus first | omega | (intros; simp_all <;> omega)) | simp (disch := omega) only [go_sem, Nat.reduceBEq, Nat.reduceAdd, ww, hgi, c1p, c1o, Lk.enc, vts, sb] | (refine uD hs ?_ ?_ ?_; exact tz hw; exact rfl))
  refine S.cond rfl (fun hc2 => ?_) (fun hc2 => ?_)
  ·rw [hg, hst (by simpa using hc2)]
   (repeat first | refine uA ?_ | (refine uK ?_ ?_; focus first | omega | (intros; simp_all <;> omega)) | simp (disch := omega) only [go_sem, Nat.reduceBEq, Nat.reduceAdd, ww])
   exact S.done (j3.out rfl (Imp.refl rfl) rfl)
  ·(repeat first | refine uA ?_ | (refine uK ?_ ?_; focus first | omega | (intros; simp_all <;> omega)) | simp (disch := omega) only [go_sem, Nat.reduceBEq, Nat.reduceAdd, ww])
   refine S.next (i + 1) ⟨by omega, ?_⟩ (by omega) (by (repeat first | refine uA ?_ | (refine ⟨?_, ?_⟩; focus first | rfl | simp [slot]) | rfl | simp))
   rw [hg, hnx (by simpa using hc2)]
 ·rw [hg, a2b (by omega)]
  (repeat first | refine uA ?_ | (refine uK ?_ ?_; focus first | omega | (intros; simp_all <;> omega)) | simp (disch := omega) only [go_sem, Nat.reduceBEq, Nat.reduceAdd, ww])
  exact S.done (j3.out rfl (Imp.refl rfl) rfl)
def a3b (a : Am) (n : Int) : Int := if J6 a ≠ 0 then J6 a else if n ≠ a.links.length then 1 else 0
theorem b6R (a : Am) (n : Int) (hl : Ab 1073741824 a) : FZ 176 [a.c, ints n] (ints (a3b a n)) := by
 refine kW Tryz.func176 (by cbv) (by rfl) fun w O hw => ?_
 have h := b2M a hl
 unfold a3b
 generalize J6 a = e at *
 obtain ⟨name, ⟨x, y, half, t⟩, links⟩ := a
 simp only [j6]
 simp only [Am.c, Am.enc, lks, sb, ints] at *
 (repeat first | refine uA ?_ | (refine uK ?_ ?_; focus first | omega | (intros; simp_all <;> omega)) | simp (disch := omega) only [go_sem, Nat.reduceBEq, Nat.reduceAdd, ww] | (refine uD h ?_ ?_ ?_; exact tz hw; exact rfl))
 refine S.cond rfl (fun hc => ?_) (fun hc => ?_)
 ·rw [if_pos (by simpa using hc)]
  (repeat first | refine uA ?_ | (refine uK ?_ ?_; focus first | omega | (intros; simp_all <;> omega)) | simp (disch := omega) only [go_sem, Nat.reduceBEq, Nat.reduceAdd, ww])
  exact S.done (j3.out rfl (Imp.refl rfl) rfl)
 rw [if_neg (by simpa using hc)]
 (repeat first | refine uA ?_ | (refine uK ?_ ?_; focus first | omega | (intros; simp_all <;> omega)) | simp (disch := omega) only [go_sem, Nat.reduceBEq, Nat.reduceAdd, ww, c1o])
 refine S.cond rfl (fun hc => ?_) (fun hc => ?_)
 ·rw [if_pos (by simpa using hc)]
  (repeat first | refine uA ?_ | (refine uK ?_ ?_; focus first | omega | (intros; simp_all <;> omega)) | simp (disch := omega) only [go_sem, Nat.reduceBEq, Nat.reduceAdd, ww])
  exact S.done (j3.out rfl (Imp.refl rfl) rfl)
 ·rw [if_neg (by simpa using hc)]
  (repeat first | refine uA ?_ | (refine uK ?_ ?_; focus first | omega | (intros; simp_all <;> omega)) | simp (disch := omega) only [go_sem, Nat.reduceBEq, Nat.reduceAdd, ww])
  exact S.done (j3.out rfl (Imp.refl rfl) rfl)
def a4I (x : Lk × Nm.Rt) : Int := if Nm.C8 (Nm.d9 x.2) (Nm.d9 x.1.low) < 0 \/ 0 < Nm.C8 (Nm.d9 x.2) (Nm.d9 x.1.high) then 17 else 0
theorem b2W (a : Am) (q : List Nm.Rt) : a1q a q = if a3b a q.length ≠ 0 then a3b a q.length else G9 a4I (a.links.zip q) := by
 unfold a1q a3b
 by_cases h : J6 a = 0
 ·rw [if_neg (by simp [h])]
  by_cases h2 : q.length = a.links.length
  ·simp [h, h2]; rfl
  ·have h3 : ¬ (q.length : Int) = a.links.length := by omega
   simp [h, h2, h3]
 ·simp [h]
theorem H6 {α β : Type} {l : List α} {m : List β} {i : Nat} {x : α} {y : β} (h : l[i]? = some x) (k : m[i]? = some y) : (l.zip m)[i]? = some (x, y) := by
 rw [List.getElem?_zip_eq_some]; exact ⟨h, k⟩
theorem c0h (a : Am) (q : List Nm.Rt) (hl : Ab 1073741824 a) (hq : Rbs 1073741824 q) : FZ 172 [a.c, rts q] (ints (a1q a q)) := by
 refine kW Tryz.func172 (by cbv) (by rfl) fun w O hw => ?_
 have h := b6R a q.length hl
 rw [b2W]
 have hlen : a3b a q.length = 0 -> q.length = a.links.length := by
  unfold a3b
  intro h
  split at h
  ·rename_i h1; exact absurd h h1
  ·split at h
   ·cases h
   ·rename_i h1; have := Classical.not_not.1 h1; omega
 generalize a3b a q.length = e at *
 obtain ⟨hqn, hqb⟩ := hq
 obtain ⟨name, ⟨x, y, half, t⟩, links⟩ := a
 obtain ⟨b0, ⟨b1, b2, b3⟩, hn, hb⟩ := hl
 simp only at b0 b1 b2 b3 hn hb hlen
 simp only [j6]
 simp only [Am.c, Am.enc, lks, sb, ints, rts] at *
 (repeat first | refine uA ?_ | (refine uK ?_ ?_; focus first | omega | (intros; simp_all <;> omega)) | simp (disch := omega) only [go_sem, Nat.reduceBEq, Nat.reduceAdd, ww, c1o] | (refine uD h ?_ ?_ ?_; exact tz hw; exact rfl))
 refine S.cond rfl (fun hc => ?_) (fun hc => ?_)
 ·rw [if_pos (by simpa using hc)]
  (repeat first | refine uA ?_ | (refine uK ?_ ?_; focus first | omega | (intros; simp_all <;> omega)) | simp (disch := omega) only [go_sem, Nat.reduceBEq, Nat.reduceAdd, ww])
  exact S.done (j3.out rfl (Imp.refl rfl) rfl)
 rw [if_neg (by simpa using hc)]
 have hlen := hlen (by simpa using hc)
 (repeat first | refine uA ?_ | (refine uK ?_ ?_; focus first | omega | (intros; simp_all <;> omega)) | simp (disch := omega) only [go_sem, Nat.reduceBEq, Nat.reduceAdd, ww, c1o])
 refine S.loop (X := Nat) (fun i => ⟨[(1, rts q), (16, lks links), (17, ints links.length), (18, ints i)], []⟩) (fun i => i <= links.length /\ G9 a4I (links.zip q) = G9 a4I ((links.zip q).drop i)) (fun i => links.length - i) 0 ⟨c1u _, rfl⟩ (by (repeat first | refine uA ?_ | (refine ⟨?_, ?_⟩; focus first | rfl | simp [slot]) | rfl | simp)) ?_
 rintro i ⟨hi, hg⟩
 simp only [rts, lks, ints]
 (repeat first | refine uA ?_ | (refine uK ?_ ?_; focus first | omega | (intros; simp_all <;> omega)) | simp (disch := omega) only [go_sem, Nat.reduceBEq, Nat.reduceAdd, ww])
 (refine uJ rfl (fun hc => ?_) fun hc => ?_)
 ·have hi' : i < links.length := by omega
  have hgi := c1n hi'
  have hgq := c1n (show i < q.length by omega)
  generalize links[i] = x at hgi
  generalize q[i]'_ = v at hgq
  have hz := H6 hgi hgq
  have hst := a1B (f := a4I) hz
  have hnx := a1y (f := a4I) hz
  have bx := hb x (c1q hgi)
  have bv := (hqb v (c1q hgq)).mono (m := 17179869184) (by decide)
  have h1 := X5 v x.low bv (bx.2.1.mono (by decide))
  have h2 := X5 v x.high bv (bx.2.2.1.mono (by decide))
  unfold a4I at hst hnx
  simp only at hst hnx
  generalize Nm.C8 (Nm.d9 v) (Nm.d9 x.low) = n1 at *
  generalize Nm.C8 (Nm.d9 v) (Nm.d9 x.high) = n2 at *
  have hqi : (i : Int) < q.length := by omega
  simp only [rc, sb, ints] at h1 h2
  (repeat first | refine uA ?_ | (refine uK ?_ ?_; focus first | omega | (intros; simp_all <;> omega)) | simp (disch := omega) only [go_sem, Nat.reduceBEq, Nat.reduceAdd, ww, hgi, hgq, c1p, c1o, Lk.enc, rcs, vts, sb, c1x] | (refine uD h1 ?_ ?_ ?_; exact tz hw; exact rfl) | (refine uD h2 ?_ ?_ ?_; exact tz hw; exact rfl))
  refine S.cond rfl (fun hc2 => ?_) (fun hc2 => ?_)
  ·have hp : n1 < 0 \/ 0 < n2 := by simpa using hc2
   rw [if_pos hp] at hst
   rw [hg, show a4I = fun x : Lk × Nm.Rt => if Nm.C8 (Nm.d9 x.2) (Nm.d9 x.1.low) < 0 \/ 0 < Nm.C8 (Nm.d9 x.2) (Nm.d9 x.1.high) then 17 else 0 from rfl, hst (by decide)]
   (repeat first | refine uA ?_ | (refine uK ?_ ?_; focus first | omega | (intros; simp_all <;> omega)) | simp (disch := omega) only [go_sem, Nat.reduceBEq, Nat.reduceAdd, ww])
   exact S.done (j3.out rfl (Imp.refl rfl) rfl)
  ·have hp : ¬ (n1 < 0 \/ 0 < n2) := by simpa using hc2
   rw [if_neg hp] at hnx
   (repeat first | refine uA ?_ | (refine uK ?_ ?_; focus first | omega | (intros; simp_all <;> omega)) | simp (disch := omega) only [go_sem, Nat.reduceBEq, Nat.reduceAdd, ww])
   refine S.next (i + 1) ⟨by omega, ?_⟩ (by omega) (by (repeat first | refine uA ?_ | (refine ⟨?_, ?_⟩; focus first | rfl | simp [slot]) | rfl | simp))
   rw [hg, show a4I = fun x : Lk × Nm.Rt => if Nm.C8 (Nm.d9 x.2) (Nm.d9 x.1.low) < 0 \/ 0 < Nm.C8 (Nm.d9 x.2) (Nm.d9 x.1.high) then 17 else 0 from rfl, hnx rfl]
 ·rw [hg, a2b (by rw [List.length_zip]; omega)]
  (repeat first | refine uA ?_ | (refine uK ?_ ?_; focus first | omega | (intros; simp_all <;> omega)) | simp (disch := omega) only [go_sem, Nat.reduceBEq, Nat.reduceAdd, ww])
  exact S.done (j3.out rfl (Imp.refl rfl) rfl)
set_option maxRecDepth 100000
set_option maxHeartbeats 4000000
theorem V3 {a : Nm.Rt} (h : j4 a = true) : Rb 3 a := by
 unfold j4 at h
 simp only [c1t, c1v] at h
 exact ⟨h.1.1.1.1, by have := h.1.1.1.2; omega⟩
theorem H7 {a : Nm.Rt} (h : j4 a = true) : Rb 1048576 a := (V3 h).mono (by decide)
theorem a4e {α : Type} {f : α -> Int} : ∀ {l : List α}, G9 f l = 0 -> ∀ x ∈ l, f x = 0
 | [], _, x, hx => by cases hx
 | y :: l, h, x, hx => by
  rw [G9] at h
  split at h
  ·rename_i h0
   rcases List.mem_cons.1 hx with rfl | hx
   ·exact h0
   ·exact a4e h x hx
  ·rename_i h0; exact absurd h h0
theorem a9Z {l : List Vt} (h : R4 l 8 = 0) : l.length <= 8 := by
 unfold R4 at h
 split at h
 ·cases h
 ·omega
theorem b0J {l : List Vt} (h : J8 l = 0) : Vbs 1048576 l := by
 have hl := a9Z (a4D h)
 unfold J8 at h
 rw [a4D h, if_neg (by decide)] at h
 split at h
 ·rename_i ha
  rw [List.all_eq_true] at ha
  refine ⟨by omega, fun v hv => ?_⟩
  have := ha v hv
  unfold okV at this
  simp only [c1t] at this
  exact ⟨H7 this.1.2, H7 this.2⟩
 ·cases h
theorem a5w {l : Lk} (h : M7 l = 0) : Lb 1048576 l /\ Nm.C8 (Nm.d9 l.low) (Nm.d9 l.high) < 0 /\ 0 < F3 (Nm.d9 l.speed) := by
 unfold M7 at h
 split at h
 ·cases h
 rename_i h1
 split at h
 ·cases h
 rename_i h2
 split at h
 ·rename_i h3; exact absurd h h3
 rename_i h3
 split at h
 ·rename_i h4
  have h1a : (j4 l.length && j4 l.low && j4 l.high && j4 l.speed && j4 l.brake) = true := by
   cases hb : (j4 l.length && j4 l.low && j4 l.high && j4 l.speed && j4 l.brake) with
   | true => rfl
   | false => exact absurd (.inl hb) h1
  simp only [c1t] at h1a
  obtain ⟨⟨⟨⟨s1, s2⟩, s3⟩, s4⟩, s5⟩ := h1a
  have hpe := a9Z (Classical.not_not.1 h3)
  rw [List.all_eq_true] at h4
  refine ⟨⟨H7 s1, H7 s2, H7 s3, H7 s4, H7 s5, by omega, fun v hv => ?_⟩, ?_, ?_⟩
  ·have := h4 v hv
   simp only [c1t] at this
   exact ⟨H7 this.1, H7 this.2⟩
  ·have : ¬ 0 <= Nm.C8 (Nm.d9 l.low) (Nm.d9 l.high) := fun h => h1 (.inr (.inr h))
   omega
  ·have : ¬ F3 (Nm.d9 l.speed) <= 0 := fun h => h2 (.inl h)
   omega
 ·cases h
theorem Q9 {a : Am} (h : J6 a = 0) : Ab 1048576 a /\ ∀ l ∈ a.links, M7 l = 0 := by
 unfold J6 at h
 split at h
 ·cases h
 rename_i h1
 split at h
 ·cases h
 split at h
 ·cases h
 rename_i h2 h3
 have hn : a.name.length <= 12 := by
  have : a1n a.name = true := by simpa using h1
  unfold a1n at this
  simp only [c1t, c1v] at this
  exact this.2
 have h3a : (j4 a.base.x && j4 a.base.y && j4 a.base.t) = true := by
  cases hb : (j4 a.base.x && j4 a.base.y && j4 a.base.t) with
  | true => rfl
  | false => exact absurd (.inr (.inl hb)) h3
 simp only [c1t] at h3a
 have hl := a4e h
 exact ⟨⟨by omega, ⟨H7 h3a.1.1, H7 h3a.1.2, H7 h3a.2⟩, by omega, fun l hl' => (a5w (hl l hl')).1⟩, hl⟩
theorem a6M {f : Fr} (h : okF f = true) : Fb 1048576 f /\ a0Q f = true := by
 unfold okF okV at h
 simp only [c1t, c1v] at h
 obtain ⟨⟨⟨⟨⟨⟨g1, g2⟩, s1⟩, s2⟩, g3⟩, s3⟩, z⟩ := h
 refine ⟨⟨H7 s1, H7 s2, H7 s3⟩, ?_⟩
 unfold a0Q I7
 simp [g1, g2, g3, z]
theorem b6g {n : Nat} : (a3J n).length <= 5 /\ (a3j n).length <= 4 /\ (a4d n).length <= 6 := by
 refine ⟨?_, ?_, ?_⟩
 ·unfold a3J
  match n with
  | 0 | 1 | 2 | 3 => decide
  | n + 4 => simp
 ·unfold a3j
  match n with
  | 0 | 1 => decide
  | n + 2 => simp
 ·unfold a4d
  match n with
  | 0 | 1 | 2 => decide
  | n + 3 => simp
theorem b0b : ∀ (c n : Nat) (l : List Int), ∀ p ∈ a0s c n l, p.name.length <= 4
 | 0, _, _, p, hp => by cases hp
 | c + 1, n, l, p, hp => by
  rcases List.mem_cons.1 hp with rfl | hp
  ·exact b6g.2.1
  ·exact b0b c _ _ p hp
theorem b0O : ∀ (c n : Nat) (l : List Int), ∀ p ∈ a0n c n l, p.name.length <= 6
 | 0, _, _, p, hp => by cases hp
 | c + 1, n, l, p, hp => by
  rcases List.mem_cons.1 hp with rfl | hp
  ·exact b6g.2.2
  ·exact b0O c _ _ p hp
theorem b0H : ∀ (c : Nat) (l : List Int), ∀ p ∈ a0m c l, p.name.length <= 4
 | 0, _, p, hp => by cases hp
 | c + 1, l, p, hp => by
  rcases List.mem_cons.1 hp with rfl | hp
  ·exact (by decide : ([100, 111, 111, 114] : List UInt8).length <= 4)
  ·exact b0H c _ p hp
theorem Fb.mono {k m : Nat} {f : Fr} (h : Fb k f) (hm : k <= m) : Fb m f := ⟨h.1.mono hm, h.2.1.mono hm, h.2.2.mono hm⟩
theorem Vbs.mono {k m : Nat} {l : List Vt} (h : Vbs k l) (hm : k <= m) : Vbs m l := ⟨c1s h.1 hm, fun v hv => ⟨(h.2 v hv).1.mono hm, (h.2 v hv).2.mono hm⟩⟩
theorem Ab.mono {k m : Nat} {a : Am} (h : Ab k a) (hm : k <= m) : Ab m a := ⟨c1s h.1 hm, h.2.1.mono hm, c1s h.2.2.1 hm, fun l hl => by
 obtain ⟨h1, h2, h3, h4, h5, h6⟩ := h.2.2.2 l hl
 exact ⟨h1.mono hm, h2.mono hm, h3.mono hm, h4.mono hm, h5.mono hm, h6.mono hm⟩⟩
theorem Wb.mono {k m : Nat} {w : Wk} (h : Wb k w) (hm : k <= m) : Wb m w :=
  ⟨⟨c1s h.arms.1 hm, fun x hx => (h.arms.2 x hx).mono hm⟩, ⟨c1s h.walls.1 hm, fun x hx => (h.walls.2 x hx).mono hm⟩, ⟨c1s h.parts.1 hm, fun x hx => ⟨c1s (h.parts.2 x hx).1 hm, (h.parts.2 x hx).2.1.mono hm, (h.parts.2 x hx).2.2.mono hm⟩⟩,
   ⟨c1s h.slots.1 hm, fun x hx => ⟨c1s (h.slots.2 x hx).1 hm, (h.slots.2 x hx).2.1.mono hm, (h.slots.2 x hx).2.2.mono hm⟩⟩, ⟨c1s h.gates.1 hm, fun x hx => ⟨c1s (h.gates.2 x hx).1 hm, ⟨(h.gates.2 x hx).2.1.1.mono hm, (h.gates.2 x hx).2.1.2.mono hm⟩, (h.gates.2 x hx).2.2.1.mono hm, (h.gates.2 x hx).2.2.2.mono hm⟩⟩, h.walk.mono hm⟩
theorem Stb.mono {k m : Nat} {s : Stt} (h : Stb k s) (hm : k <= m) : Stb m s :=
 ⟨⟨c1s h.arms.1 hm, fun x hx => ⟨⟨c1s (h.arms.2 x hx).1.1 hm, fun r hr => ((h.arms.2 x hx).1.2 r hr).mono hm⟩, c1s (h.arms.2 x hx).2.1 hm, fun r hr => ((h.arms.2 x hx).2.2 r hr).mono hm⟩⟩, ⟨c1s h.parts.1 hm, fun x hx => (h.parts.2 x hx).mono hm⟩, h.people.mono hm, c1s h.gates hm⟩
theorem b2P (l : List Int) : Wb 1048576 (J5 l) := by
 obtain ⟨c1, c2, c3, c4, c5⟩ := counts l
 have x1 := a5B (nA l) 0 (l.drop 1) (by omega)
 have x2 := a4j (nW l) ((l1 l).drop 1)
 have x3 := a6p (nP l) 0 ((l2 l).drop 1)
 have x4 := a4t (nS l) 0 ((l3 l).drop 1)
 have x5 := a5Z (nG l) ((l4 l).drop 1)
 have a1 := l7 (l5 l) (n := 4) (by decide)
 have a2 := C9 (l5 l) (n := 4) (by decide)
 refine ⟨⟨?_, fun x hx => (Q9 (x1 x hx)).1⟩, ⟨?_, fun x hx => b0J (x2.1 x hx).1⟩, ⟨?_, fun x hx => ?_⟩, ⟨?_, fun x hx => ?_⟩, ⟨?_, fun x hx => ?_⟩, ?_⟩
 ·show (a1D _ _ _).length <= _
  rw [a6C]; omega
 ·show (a1A _ _).length <= _
  rw [x2.2]; omega
 ·show (a0s _ _ _).length <= _
  rw [x3.2.1]; omega
 ·obtain ⟨⟨h1, h2⟩, h3⟩ := x3.1 x hx
  have := b0b _ _ _ x hx
  exact ⟨by omega, b0J h1, (a6M h2).1⟩
 ·show (a0n _ _ _).length <= _
  rw [x4.2.1]; omega
 ·have h := x4.1 x hx
  simp only [c1t] at h
  have := b0O _ _ _ x hx
  exact ⟨by omega, (a6M h.1.1.1).1, H7 h.1.2⟩
 ·show (a0m _ _).length <= _
  rw [x5.2.1]; omega
 ·have h := x5.1 x hx
  simp only [c1t] at h
  have := b0H _ _ x hx
  obtain ⟨⟨⟨h1, h2⟩, _⟩, _⟩ := h
  unfold okV at h1 h2
  simp only [c1t] at h1 h2
  exact ⟨by omega, ⟨H7 h1.1.2, H7 h1.2⟩, H7 h2.1.2, H7 h2.2⟩
 ·exact H7 (Q5 _ _ (by omega) (by decide))
theorem b6l (l : List Int) : Wb 1073741824 (J5 l) := (b2P l).mono (by decide)
theorem a6J {α β : Type} {f : α -> β} : ∀ {l : List α} {x : α × β}, x ∈ l.zip (l.map f) -> x.1 ∈ l /\ x.2 = f x.1
 | [], x, h => by simp at h
 | a :: l, x, h => by
  simp only [c1F, List.zip_cons_cons] at h
  rcases List.mem_cons.1 h with rfl | h
  ·exact ⟨List.mem_cons_self .., rfl⟩
  ·exact ⟨List.mem_cons_of_mem _ (a6J h).1, (a6J h).2⟩
theorem a3u (p q : Rat) : Nm.C8 p q < 0 <-> p < q := by
 unfold Nm.C8
 split
 ·simp_all
 ·split
  ·simp_all
  ·simp_all
theorem Z5 (p q : Rat) : 0 < Nm.C8 p q <-> q < p := by
 unfold Nm.C8
 split
 ·rename_i h; simp; grind
 ·split
  ·rename_i h1 h2; simp; grind
  ·rename_i h1 h2; simp; grind
theorem b6o {l : Lk} (h : M7 l = 0) : a4I (l, a0I l) = 0 := by
 have hc := (a3u _ _).1 (a5w h).2.1
 unfold a4I a0I
 simp only [Nm.E8]
 rw [if_neg]
 rw [a3u, Z5]
 unfold a1v a0e
 have e1 : ∀ p q : Rat, (Nm.C8 p q >= 0) <-> ¬ p < q := fun p q => by rw [<- a3u]; omega
 have e2 : ∀ p q : Rat, (Nm.C8 p q <= 0) <-> ¬ q < p := fun p q => by rw [<- Z5]; omega
 simp only [e1, e2]
 repeat' split
 all_goals grind
theorem a7G {l : Lk} (h : M7 l = 0) : a0o (l, Nm.ofQ 0) = 0 := by
 have hs := (a5w h).2.2
 unfold a0o
 simp only [Nm.E8]
 rw [if_neg]
 have h0 : G7 0 = 0 := rfl
 rw [h0, Z5]
 have hn : 0 < (Nm.d9 l.speed).num := by
  unfold F3 at hs
  split at hs
  ·omega
  ·split at hs <;> omega
 intro hlt
 have := (Rat.lt_iff _ _).1 hlt
 simp at this
 omega
theorem b5R {a : Am} (h : J6 a = 0) (n : Nat) : a0c a (U4 a) n = 0 := by
 have hl := (Q9 h).2
 unfold a0c U4
 simp only
 have g1 : (a.links.map a0I).all I7 = true := by
  rw [List.all_eq_true]
  intro x hx
  obtain ⟨l, _, rfl⟩ := List.mem_map.1 hx
  exact decide_eq_true (Nm.a0L _)
 have g2 : (a.links.map fun _ => Nm.ofQ 0).all I7 = true := by
  rw [List.all_eq_true]
  intro x hx
  obtain ⟨l, _, rfl⟩ := List.mem_map.1 hx
  exact decide_eq_true (Nm.a0L _)
 have hf : a1q a (a.links.map a0I) = 0 := by
  rw [b2W]
  have : a3b a (a.links.map a0I).length = 0 := by
   unfold a3b
   rw [h, if_neg (by decide), c1o, if_neg (by simp)]
  rw [this, if_neg (by decide)]
  refine a1o fun x hx => ?_
  obtain ⟨h1, h2⟩ := a6J hx
  obtain ⟨x1, x2⟩ := x
  simp only at h1 h2
  rw [h2]
  exact b6o (hl x1 h1)
 rw [g1, g2, if_neg (by decide), hf, if_neg (by decide), if_neg (by simp; omega)]
 refine a1o fun x hx => ?_
 obtain ⟨h1, h2⟩ := a6J hx
 obtain ⟨x1, x2⟩ := x
 simp only at h1 h2
 rw [h2]
 exact a7G (hl x1 h1)
theorem a7D (n : Nat) : ∀ (l : List Am) (h : List Int), (∀ a ∈ l, J6 a = 0) -> (u6 (R5 n) h (l.zip (l.map U4))).1 = 0
 | [], _, _ => rfl
 | a :: l, h, ha => by
  have e : R5 n h (a, U4 a) = (0, a6S h (-1)) := by
   unfold R5
   simp only
   rw [b5R (ha a (by simp)) n, if_neg (by decide), if_neg (by simp [U4])]
   rfl
  simp only [c1F, List.zip_cons_cons, u6, e]
  exact a7D n l _ fun x hx => ha x (by simp [hx])
theorem b2n {w : Wk} (h : a0p w = 0) (ha : ∀ a ∈ w.arms, J6 a = 0) (hs : ∀ s ∈ w.slots, okF s.frame = true) : N9 w (K7 w) = 0 := by
 unfold N9
 have l1 : (K7 w).arms.length = w.arms.length := by simp [K7]
 have l2 : (K7 w).parts.length = w.parts.length := by simp [K7]
 have l3 : (K7 w).gates.length = w.gates.length := by simp [K7]
 have l4 : (K7 w).people = [] := rfl
 have l5 : (K7 w).tick = 0 := rfl
 have hh : (u6 (R5 w.parts.length) [] (w.arms.zip (K7 w).arms)).1 = 0 := a7D _ w.arms [] ha
 have hp : (K7 w).parts.all a0Q = true := by
  rw [List.all_eq_true]
  intro f hf
  obtain ⟨i, _, rfl⟩ := List.mem_map.1 hf
  unfold a6B
  split
  ·exact (a6M (hs _ (c1B _))).2
  ·unfold a2F a0Q I7 a4z
   simp [Nm.a0L]
 rw [h, if_neg (by decide), l4, if_neg (by decide), l1, l2, l3, l5, if_neg (by simp), hh, if_neg (by decide), hp]
 rfl
theorem a3R : Rb 1048576 (Nm.ofQ 0) := ⟨c1s (Nm.F8 (k := 8) (by decide)) (by decide), c1s (Nm.F8 (k := 8) (by decide)) (by decide)⟩
theorem b1T {k : Nat} (hk : 1048576 <= k) {w : Wk} (hw : Wb k w) (ha : ∀ a ∈ w.arms, J6 a = 0) (hs : ∀ s ∈ w.slots, okF s.frame = true) : Stb k (K7 w) := by
 refine ⟨⟨?_, fun x hx => ?_⟩, ⟨?_, fun x hx => ?_⟩, ⟨c1u _, fun v hv => by cases hv⟩, ?_⟩
 ·show (w.arms.map U4).length <= _
  rw [c1o]; exact hw.arms.1
 ·obtain ⟨a, haa, rfl⟩ := List.mem_map.1 hx
  have hab := hw.arms.2 a haa
  refine ⟨⟨?_, fun r hr => ?_⟩, ?_, fun r hr => ?_⟩
  ·show (a.links.map a0I).length <= _
   rw [c1o]; exact hab.2.2.1
  ·obtain ⟨l, hl, rfl⟩ := List.mem_map.1 hr
   have hlb := hab.2.2.2 l hl
   unfold a0I a1v a0e
   repeat' split
   all_goals first | exact hlb.2.1.fit (by omega) | exact hlb.2.2.1.fit (by omega) | exact a3R.mono hk
  ·show (a.links.map fun _ => Nm.ofQ 0).length <= _
   rw [c1o]; exact hab.2.2.1
  ·obtain ⟨l, hl, rfl⟩ := List.mem_map.1 hr
   exact a3R.mono hk
 ·show ((List.range _).map _).length <= _
  simp; exact hw.parts.1
 ·obtain ⟨i, _, rfl⟩ := List.mem_map.1 hx
  unfold a6B
  split
  ·exact (a6M (hs _ (c1B _))).1.mono hk
  ·exact ⟨a3R.mono hk, a3R.mono hk, a3R.mono hk⟩
 ·show (List.replicate _ _).length <= _
  rw [List.length_replicate]; exact hw.gates.1
theorem b6C {w : Wk} (hw : Wb 1073741824 w) (ha : ∀ a ∈ w.arms, J6 a = 0) (hs : ∀ s ∈ w.slots, okF s.frame = true) : Stb 1073741824 (K7 w) := b1T (by decide) hw ha hs
theorem a7H (l : List Int) : (∀ a ∈ (J5 l).arms, J6 a = 0) /\ ∀ s ∈ (J5 l).slots, okF s.frame = true := by
 obtain ⟨c1, c2, c3, c4, c5⟩ := counts l
 refine ⟨a5B (nA l) 0 (l.drop 1) (by omega), fun s hs => ?_⟩
 have h := (a4t (nS l) 0 ((l3 l).drop 1)).1 s hs
 simp only [c1t] at h
 exact h.1.1.1
def a0X (a b : Nm.Rt) : Nm.Rt := Nm.ofQ (Nm.d9 a + Nm.d9 b)
def X0 (b v : Nm.Rt) : Nm.Rt := if Nm.C8 (G7 (Nm.d9 v)) (Nm.d9 b) <= 0 then Nm.ofQ 0 else if F3 (Nm.d9 v) < 0 then a0X v b else Nm.ofQ (Nm.d9 v - Nm.d9 b)
def Y3 (a : Am) (x : Ast) : List Nm.Rt := (a.links.zip x.v).map fun p => X0 p.1.brake p.2
def a1t (a : Am) (x : Ast) : List Nm.Rt := (x.q.zip (Y3 a x)).map fun p => a0X p.1 p.2
def a8g (a : Am) (x : Ast) : Ast := ⟨a1t a x, Y3 a x, false, x.holds⟩
def mvQ (x : Ast) (u : List Nm.Rt) : List Nm.Rt := (x.q.zip u).map fun p => a0X p.1 p.2
def mvA (x : Ast) (u : List Nm.Rt) : Ast := ⟨mvQ x u, u, true, x.holds⟩
def b5m (x : Lk × Nm.Rt × Nm.Rt) : Bool := !(decide (0 < Nm.C8 (G7 (Nm.d9 x.2.2)) (Nm.d9 x.1.speed)) || decide (0 < Nm.C8 (Nm.d9 x.1.low) (Nm.d9 x.2.1 + Nm.d9 x.2.2)) || decide (0 < Nm.C8 (Nm.d9 x.2.1 + Nm.d9 x.2.2) (Nm.d9 x.1.high)))
def a5I (a : Am) (q u : List Nm.Rt) : Bool := decide (u.length = a.links.length) && (u.all I7 && (a.links.zip (q.zip u)).all b5m)
def Y4 (a : Am) (x : Ast) (u : List Nm.Rt) (p : Bool) : Ast := if p && a5I a x.q u then mvA x u else a8g a x
def O5 (a b : Fr) : Fr := ⟨Nm.ofQ (a9M a ⟨b.x, b.y⟩), Nm.ofQ (a9C a ⟨b.x, b.y⟩), (a1Y a.half (u7 a.half a.t) b.half (u7 b.half b.t)).1, Nm.ofQ (a1Y a.half (u7 a.half a.t) b.half (u7 b.half b.t)).2⟩
def a0q (q : Nm.Rt) : Fr := ⟨Nm.ofQ 0, Nm.ofQ 0, false, Nm.ofQ (Nm.d9 q)⟩
def a5j (l : Lk) : Fr := ⟨l.length, Nm.ofQ 0, false, Nm.ofQ 0⟩
def a0J : Fr -> List (Lk × Nm.Rt) -> List Fr
 | e, [] => [e]
 | e, (l, q) :: r => O5 e (a0q q) :: a0J (O5 (O5 e (a0q q)) (a5j l)) r
def a3e : Fr -> List (Lk × Nm.Rt) -> Fr
 | e, [] => e
 | e, (l, q) :: r => a3e (O5 (O5 e (a0q q)) (a5j l)) r
def a1F (f : Fr) : Fr := ⟨Nm.ofQ (Nm.d9 (Nm.ofQ (0 - Nm.d9 f.x)) * R9 f.half (u7 f.half (Nm.ofQ (- u7 f.half f.t))) - Nm.d9 (Nm.ofQ (0 - Nm.d9 f.y)) * S9 (u7 f.half (Nm.ofQ (- u7 f.half f.t)))), Nm.ofQ (Nm.d9 (Nm.ofQ (0 - Nm.d9 f.x)) * S9 (u7 f.half (Nm.ofQ (- u7 f.half f.t))) + Nm.d9 (Nm.ofQ (0 - Nm.d9 f.y)) * R9 f.half (u7 f.half (Nm.ofQ (- u7 f.half f.t)))), f.half, Nm.ofQ (- u7 f.half f.t)⟩
def a6N (a : Am) (q : List Nm.Rt) (g : Fr) : Fr := O5 (a3e a.base (a.links.zip q)) (a1F g)
def a0A (w : Wk) (s : Stt) (u : List (List Nm.Rt)) (p : List Bool) : List Ast := ((w.arms.zip s.arms).zip (u.zip p)).map fun z => Y4 z.1.1 z.1.2 z.2.1 z.2.2
def a3h (w : Wk) (P : List Fr) (z : Am × Ast) : List Fr :=
 if z.2.holds < 0 then P else match w.parts[z.2.holds.toNat]? with
  | some pt => P.set z.2.holds.toNat (a6N z.1 z.2.q pt.grasp)
  | none => P
def a5K (k : Nm.Rt) (v : Vt) : Bool := a5u v && !decide (0 < Nm.C8 (a1v (G7 (Nm.d9 v.x)) (G7 (Nm.d9 v.y))) (Nm.d9 k))
def a7Q (p : Vt × Vt) : Vt := ⟨a0X p.1.x p.2.x, a0X p.1.y p.2.y⟩
def a2H (w : Wk) (s : Stt) (u : List (List Nm.Rt)) (p : List Bool) (v : List Vt) : Int :=
 if N9 w s ≠ 0 then N9 w s else
 if u.length ≠ w.arms.length \/ p.length ≠ w.arms.length \/ v.length ≠ s.people.length then 1 else
 if v.all (a5K w.walk) = false then 1 else
 if s.tick = 2000 then 7 else 0
def Y1 (w : Wk) (s : Stt) (u : List (List Nm.Rt)) (p : List Bool) (v : List Vt) : Stt :=
 ⟨s.tick + 1, a0A w s u p, (w.arms.zip (a0A w s u p)).foldl (a3h w) s.parts, (s.people.zip v).map a7Q, s.gates⟩
theorem b2G {n : Nat} : ∀ {l : List (Am × Ast)} {h : List Int}, (u6 (R5 n) h l).1 = 0 -> ∀ z ∈ l, a0c z.1 z.2 n = 0
 | [], _, _, z, hz => by cases hz
 | y :: l, h, e, z, hz => by
  have hy : (R5 n h y).1 = 0 := by
   unfold u6 at e
   split at e
   ·assumption
   ·exact e
  unfold u6 at e
  rw [if_pos hy] at e
  rcases List.mem_cons.1 hz with rfl | hz
  ·unfold R5 at hy
   split at hy
   ·exact hy
   ·exact Classical.not_not.1 (by assumption)
  ·exact b2G e z hz
structure c1c (w : Wk) (s : Stt) : Prop where
 works : a0p w = 0
 people : s.people.length <= 4
 tick : 0 <= s.tick /\ s.tick <= 2000
 arms : s.arms.length = w.arms.length
 parts : s.parts.length = w.parts.length
 gates : s.gates.length = w.gates.length
 one : ∀ z ∈ w.arms.zip s.arms, a0c z.1 z.2 w.parts.length = 0
 big : 1 <= w.arms.length /\ w.arms.length <= 4 /\ w.parts.length <= 6 /\ w.gates.length <= 4
theorem O9 {w : Wk} {s : Stt} (h : N9 w s = 0) : c1c w s := by
 unfold N9 at h
 split at h
 ·rename_i h1; exact absurd h h1
 rename_i h1
 split at h
 ·cases h
 split at h
 ·cases h
 split at h
 ·rename_i h2; exact absurd h h2
 rename_i h2 h3 h4
 have h1 := Classical.not_not.1 h1
 have hb := h1
 unfold a0p at hb
 split at hb
 ·cases hb
 split at hb
 ·cases hb
 exact ⟨h1, by omega, by omega, by omega, by omega, by omega, b2G (Classical.not_not.1 h4), by omega⟩
structure b8q (a : Am) (x : Ast) (n : Nat) : Prop where
 arm : J6 a = 0
 q : x.q.length = a.links.length
 v : x.v.length = a.links.length
 holds : -1 <= x.holds /\ x.holds < n
theorem a1x {a : Am} {x : Ast} {n : Nat} (h : a0c a x n = 0) : b8q a x n := by
 unfold a0c at h
 split at h
 ·cases h
 split at h
 ·rename_i h1; exact absurd h h1
 rename_i h1
 split at h
 ·cases h
 have h2 := Classical.not_not.1 h1
 unfold a1q at h2
 split at h2
 ·rename_i h3; exact absurd h2 h3
 rename_i h3
 split at h2
 ·cases h2
 exact ⟨Classical.not_not.1 h3, by omega, by omega, by omega⟩
theorem V8 {a : Am} (h : J6 a = 0) : 1 <= a.links.length /\ a.links.length <= 3 := by
 unfold J6 at h
 split at h
 ·cases h
 split at h
 ·cases h
 split at h
 ·cases h
 ·omega
theorem c0y {a : Am} {n : Int} (h : J6 a = 0) (hn : n = a.links.length) : a3b a n = 0 := by
 unfold a3b
 rw [if_neg (by simp [h]), if_neg (by simp [hn])]
theorem a5i {l : Lk} (h : M7 l = 0) : 0 < F3 (Nm.d9 l.brake) := by
 unfold M7 at h
 split at h
 ·cases h
 split at h
 ·cases h
 ·omega
theorem a1O (q : Rat) : (F3 q = -1 /\ q < 0) \/ (F3 q = 0 /\ q = 0) \/ (F3 q = 1 /\ 0 < q) := by
 have h1 := @Rat.num_nonneg q
 have h2 := @Rat.num_eq_zero q
 unfold F3
 by_cases h0 : q.num = 0
 ·right; left; exact ⟨if_pos h0, h2.1 h0⟩
 rw [if_neg h0]
 by_cases hn : q.num < 0
 ·left
  refine ⟨if_pos hn, ?_⟩
  rw [<- Rat.not_le, <- h1]; omega
 ·right; right
  refine ⟨if_neg hn, ?_⟩
  have h5 : 0 <= q := h1.1 (by omega)
  have h6 : q ≠ 0 := fun e => h0 (h2.2 e)
  grind
theorem a2s {w : Wk} {s : Stt} {u : List (List Nm.Rt)} {p : List Bool} (h1 : s.arms.length = w.arms.length) (h2 : u.length = w.arms.length) (h3 : p.length = w.arms.length) : (a0A w s u p).length = w.arms.length := by
 unfold a0A; simp only [c1o, List.length_zip]; omega
theorem a2E {w : Wk} {s : Stt} {u : List (List Nm.Rt)} {p : List Bool} {i : Nat} {a : Am} {x : Ast} {v : List Nm.Rt} {b : Bool} (h1 : w.arms[i]? = some a) (h2 : s.arms[i]? = some x) (h3 : u[i]? = some v) (h4 : p[i]? = some b) : (a0A w s u p)[i]? = some (Y4 a x v b) := by
 unfold a0A
 rw [c1Z, H6 (H6 h1 h2) (H6 h3 h4)]
 rfl
theorem holds_one (a : Am) (x : Ast) (u : List Nm.Rt) (p : Bool) : (Y4 a x u p).holds = x.holds := by
 unfold Y4; split <;> rfl
theorem b4q {a : Am} {x : Ast} {n : Nat} {u : List Nm.Rt} {p : Bool} (h : b8q a x n) : (Y4 a x u p).q.length = a.links.length /\ (Y4 a x u p).v.length = a.links.length := by
 unfold Y4
 have h1 := h.q
 have h2 := h.v
 split
 ·rename_i hc
  simp only [c1t, a5I, c1v] at hc
  have h3 := hc.2.1
  simp only [mvA, mvQ, c1o, List.length_zip]; omega
 ·simp only [a8g, a1t, Y3, c1o, List.length_zip]; omega
theorem b9a {α : Type} {l m : List α} {i : Nat} {y : α} (hl : l.length = m.length) (hy : l[i]? = some y) : (l.take i ++ m.drop i).set i y = l.take (i + 1) ++ m.drop (i + 1) := by
 obtain ⟨hi, rfl⟩ := c1r.1 hy
 have h1 : (l.take i).length = i := by rw [c1y]; omega
 rw [List.set_append_right _ _ (by omega), h1, Nat.sub_self, List.drop_eq_getElem_cons (show i < m.length by omega), List.set_cons_zero, c2e hi, c1U]
 rfl
theorem a5b {α : Type} {l m : List α} {i : Nat} (hl : l.length = m.length) (hi : i <= m.length) : (l.take i ++ m.drop i).length = m.length := by
 simp only [c1C, c1y, c1Y]; omega
theorem mid_end {α : Type} {l m : List α} (hl : l.length = m.length) : l.take m.length ++ m.drop m.length = l := by
 rw [<- hl, c1N, hl, List.drop_length, List.append_nil]
theorem a7x : ∀ (z : List (Lk × Nm.Rt)) (e : Fr), (a0J e z)[z.length]? = some (a3e e z) /\ (a0J e z).length = z.length + 1
 | [], e => ⟨rfl, rfl⟩
 | (l, q) :: r, e => by
  obtain ⟨h1, h2⟩ := a7x r (O5 (O5 e (a0q q)) (a5j l))
  simp only [a0J, a3e, c1I, List.getElem?_cons_succ]
  exact ⟨h1, by rw [h2]⟩
set_option maxRecDepth 10000
set_option maxHeartbeats 8000000
theorem b6H (v : Vt) (hv : Vb 17179869184 v) : FZ 137 [v.c] (.v (.bool (!okV v))) := by
 refine kW Tryz.func137 (by cbv) (by rfl) fun w O hw => ?_
 obtain ⟨x, y⟩ := v
 obtain ⟨b1, b2⟩ := hv
 simp only at b1 b2
 have h1 := a1b x (b1.mono (by decide))
 have h2 := a1b y (b2.mono (by decide))
 have h3 := a3x x b1
 have h4 := a3x y b2
 unfold okV
 simp only
 generalize decide x.G5 = q1 at *
 generalize decide y.G5 = q2 at *
 generalize j4 x = q3 at *
 generalize j4 y = q4 at *
 simp only [j6]
 simp only [Vt.c, Vt.enc, rc, sb] at *
 (repeat first | refine uA ?_ | (refine uK ?_ ?_; focus first | omega | (intros; simp_all <;> omega)) | simp (disch := omega) only [go_sem, Nat.reduceBEq, Nat.reduceAdd, ww] | (refine uD h1 ?_ ?_ ?_; exact tz hw; exact rfl) | (refine uD h2 ?_ ?_ ?_; exact tz hw; exact rfl) | (refine uD h3 ?_ ?_ ?_; exact tz hw; exact rfl) | (refine uD h4 ?_ ?_ ?_; exact tz hw; exact rfl))
 have e : (!(q1 && q2 && q3 && q4)) = (!q1 || !q2 || !q3 || !q4) := by cases q1 <;> cases q2 <;> cases q3 <;> cases q4 <;> rfl
 (try rw [e])
 exact S.done (j3.out rfl (Imp.refl rfl) rfl)
theorem a8b (l : List Vt) (hl : Vbs 17179869184 l) : FZ 44 [vts l] (.v (.bool (l.all okV))) := by
 refine kW Tryz.func44 (by cbv) (by rfl) fun w O hw => ?_
 have h := b1J 137 (by kernel_rfl) (fun v => !okV v) l (by have := hl.1; omega) (fun v hv => b6H v (hl.2 v hv))
 have e : l.all okV = !l.any fun v => !okV v := by rw [List.not_any_eq_all_not]; simp
 rw [e]
 generalize (l.any fun v => !okV v) = q at *
 simp only [j6]
 simp only [vts] at *
 (repeat first | refine uA ?_ | (refine uK ?_ ?_; focus first | omega | (intros; simp_all <;> omega)) | simp (disch := omega) only [go_sem, Nat.reduceBEq, Nat.reduceAdd, ww] | (refine uD h ?_ ?_ ?_; exact tz hw; exact rfl))
 exact S.done (j3.out rfl (Imp.refl rfl) rfl)
theorem Vbs.one {k : Nat} {v : Vt} (h : 1 <= k) (h1 : Vb k v) : Vbs k [v] := ⟨h, fun x hx => by simp at hx; subst hx; exact h1⟩
theorem Vbs.two {k : Nat} {v u : Vt} (h : 2 <= k) (h1 : Vb k v) (h2 : Vb k u) : Vbs k [v, u] := ⟨h, fun x hx => by simp at hx; rcases hx with rfl | rfl <;> assumption⟩
theorem b2B (f : Fr) (hf : Fb 17179869184 f) : FZ 9 [f.c] (.v (.bool (okF f))) := by
 refine kW Tryz.func9 (by cbv) (by rfl) fun w O hw => ?_
 obtain ⟨x, y, half, t⟩ := f
 obtain ⟨b1, b2, b3⟩ := hf
 simp only at b1 b2 b3
 have h1 := a8b [⟨x, y⟩] (Vbs.one (by decide) ⟨b1, b2⟩)
 rw [List.all_cons, List.all_nil, Bool.and_true] at h1
 have h2 := a1b t (b3.mono (by decide))
 have h3 := a3x t b3
 have h4 := Z4 t b3
 unfold okF a4z
 simp only
 generalize okV ⟨x, y⟩ = q1 at *
 generalize decide t.G5 = q2 at *
 generalize j4 t = q3 at *
 generalize F3 (Nm.d9 t) = n at *
 simp only [j6]
 simp only [Fr.c, Fr.enc, vts, Vt.enc, rc, sb, ints, c1F, c2b] at *
 (repeat first | refine uA ?_ | (refine uK ?_ ?_; focus first | omega | (intros; simp_all <;> omega)) | simp (disch := omega) only [go_sem, Nat.reduceBEq, Nat.reduceAdd, ww] | (refine uD h2 ?_ ?_ ?_; exact tz hw; exact rfl) | (refine uD h3 ?_ ?_ ?_; exact tz hw; exact rfl) | (refine uD h4 ?_ ?_ ?_; exact tz hw; exact rfl) | (refine uE h1 ?_ ?_ ?_ ?_; exact tz hw; exact rfl; focus (repeat' first | exact p8.nil | exact Imp.refl rfl | exact Imp.frz rfl rfl rfl | (refine Imp.a0x rfl rfl ?_ ?_; (focus ((try simp only [c1C]); omega)); (focus first | rfl | assumption)) | refine p8.cons ?_ ?_); done))
 have e : (q1 && q2 && q3 && !(half && !decide (n = 0))) = (q1 && q2 && q3 && (!half || decide (n = 0))) := by cases q1 <;> cases q2 <;> cases q3 <;> cases half <;> simp
 rw [e]
 exact S.done (j3.out rfl (Imp.refl (by rfl)) rfl)
theorem b2A (l : List Vt) (hl : Vbs 1073741824 l) : FZ 53 [vts l] (ints (J8 l)) := by
 refine kW Tryz.func53 (by cbv) (by rfl) fun w O hw => ?_
 have h1 := a7u l hl
 have h2 := a8b l ⟨by have := hl.1; omega, fun v hv => (hl.2 v hv).mono (by decide)⟩
 unfold J8
 generalize R4 l 8 = e at *
 generalize l.all okV = q at *
 simp only [j6]
 simp only [vts, ints] at *
 (repeat first | refine uA ?_ | (refine uK ?_ ?_; focus first | omega | (intros; simp_all <;> omega)) | simp (disch := omega) only [go_sem, Nat.reduceBEq, Nat.reduceAdd, ww] | (refine uD h1 ?_ ?_ ?_; exact tz hw; exact rfl))
 refine S.cond rfl (fun hc => ?_) (fun hc => ?_)
 ·rw [if_pos (by simpa using hc)]
  (repeat first | refine uA ?_ | (refine uK ?_ ?_; focus first | omega | (intros; simp_all <;> omega)) | simp (disch := omega) only [go_sem, Nat.reduceBEq, Nat.reduceAdd, ww])
  exact S.done (j3.out rfl (Imp.refl rfl) rfl)
 rw [if_neg (by simpa using hc)]
 (repeat first | refine uA ?_ | (refine uK ?_ ?_; focus first | omega | (intros; simp_all <;> omega)) | simp (disch := omega) only [go_sem, Nat.reduceBEq, Nat.reduceAdd, ww] | (refine uD h2 ?_ ?_ ?_; exact tz hw; exact rfl))
 refine S.cond rfl (fun hc => ?_) (fun hc => ?_)
 ·rw [if_neg (by simpa using hc)]
  (repeat first | refine uA ?_ | (refine uK ?_ ?_; focus first | omega | (intros; simp_all <;> omega)) | simp (disch := omega) only [go_sem, Nat.reduceBEq, Nat.reduceAdd, ww])
  exact S.done (j3.out rfl (Imp.refl rfl) rfl)
 ·rw [if_pos (by simpa using hc)]
  (repeat first | refine uA ?_ | (refine uK ?_ ?_; focus first | omega | (intros; simp_all <;> omega)) | simp (disch := omega) only [go_sem, Nat.reduceBEq, Nat.reduceAdd, ww])
  exact S.done (j3.out rfl (Imp.refl rfl) rfl)
end Go.Proofs.YtpjjiegfigpgnaaGreatDoor
namespace Go.Proofs.YtpjjiegfigpgnaaGreatDoor.Eng
open Go Go.RowKit
theorem l6.ofT {E : Ctx} {eff : Nat -> Bool} {f : Nat} {fn : Func} {ir : L9} (ht : Tz E) (hf : E.P.funcs[f]? = some fn) (hc : J2 eff E.P fn = some ir) {rs : List Res} {args : List C} {s : C} {rs' : List Res} {pk : List Nat} (hn : args.length <= ir.ntmps)
  (h : ∀ w own av ν, ν.length = rs.length -> Tz ⟨E.P, eff, ir.ntmps, w, own, av, ν, pk⟩ -> S ⟨E.P, eff, ir.ntmps, w, own, av, ν, pk⟩ (Fin E.P ir.results (b5s ⟨E.P, eff, ir.ntmps, w, own, av, ν, pk⟩ rs' s)) ⟨j6 0 args, rs⟩ [.code ir.body]) : l6 E rs f args s rs' pk := by
 intro av ν w vs hR hav hF hD
 have hR' : RG av (owned rs ν) w.heap.size ν rs w := ⟨hR.len, hR.res, hR.dis, fun b hb => ⟨(hR.low b hb).1, (hR.low b hb).2.1, .inl hb⟩, hR.av, c1w _⟩
 have ht' : Tz ⟨E.P, eff, ir.ntmps, w, owned rs ν, av, ν, pk⟩ := ⟨ht.at hF, fun ho => by
  rcases (hR.low _ ho).2.2 with h1 | h1
  ·exact ht.2 h1
  ·have := b8y ht.1; omega⟩
 refine (b2q (E := ⟨E.P, eff, ir.ntmps, w, owned rs ν, av, ν, pk⟩) hf hc rfl rfl hR.av rs hR' args hD hn (h w (owned rs ν) av ν hR.len ht')).mono ?_
 rintro e w' ⟨y, rfl, ν', h1, h2, h3, h4⟩
 refine ⟨y, ν', rfl, ⟨h1.len, h1.res, h1.dis, fun b hb => ?_, h1.av, c1s hR.n0 h2.size⟩, ⟨h2.os, h2.tape, h2.output, h2.size, h2.block, fun b hb => (h1.low b hb).2.2, h3⟩, h4⟩
 obtain ⟨g1, g2, g3⟩ := h1.low b hb
 refine ⟨g1, g2, ?_⟩
 rcases g3 with g3 | g3
 ·exact (hR.low b g3).2.2
 ·exact .inr (c1s hR.n0 g3)
def Res.shut : Res -> Bool
 | .gone => false
 | .box _ cs => C.clL cs
 | .row _ _ _ => true
 | .map _ _ => true
theorem a5f {ν ν' : List Value} {w : World} {O O' : Nat -> Prop} {x : Value} {r : Res} (hs : r.shut = true) (hO : ∀ b, O' b -> O b) (h : L6 ν w O x r) : L6 ν' w O' x r := by
 cases r with
 | gone => cases hs
 | box t cs =>
  obtain ⟨b, vs, h1, h2, h3, h4⟩ := h
  exact ⟨b, vs, h1, (FzL.keep (Keeps.sub hO) (h2.fz hs)).den ν', h3, h4⟩
 | row e sz es => exact a4L hO h
 | map s es => exact h
theorem b9y {r r' : Res} (hs : r.shut = true) {x : Value} {b : Nat} (h : fp r' x b) : fp r x b := by
 cases r <;> cases r' <;> first | exact False.elim h | exact h | (cases hs; done)
def at0 (k : Nat) : C -> C
 | .mp 0 => .mp k
 | .bp 0 o => .bp k o
 | .rv 0 => .rv k
 | .bnd f (.mp 0) => .bnd f (.mp k)
 | c => c
def okA : C -> Bool
 | .mp 0 => true
 | .bp 0 _ => true
 | .rv 0 => true
 | .bnd _ (.mp 0) => true
 | c => c.cl
theorem b8W {ν : List Value} {w : World} {O O' : Nat -> Prop} {k : Nat} {x : Value} (hk : ν[k]? = some x) (hO : ∀ b, O' b -> O b) {c : C} {y : Value} (hc : okA c = true) (h : Den ν w O (at0 k c) y) : Den [x] w O' c y := by
 unfold okA at hc
 split at hc
 ·simp only [at0, Den] at h ⊢
  rw [hk] at h
  exact h
 ·simp only [at0, Den] at h ⊢
  rw [hk] at h
  exact h
 ·simp only [at0, Den] at h ⊢
  rw [hk] at h
  exact h
 ·simp only [at0, Den] at h ⊢
  rw [hk] at h
  exact h
 ·rename_i c0 h1 h2 h3 h4
  have e : at0 k c = c := by
   cases c with
   | mp j => cases j with
    | zero => exact (h1 rfl).elim
    | succ j => rfl
   | bp j o => cases j with
    | zero => exact (h2 _ rfl).elim
    | succ j => rfl
   | rv j => cases j with
    | zero => exact (h3 rfl).elim
    | succ j => rfl
   | bnd g d => cases d with
    | mp j => cases j with
     | zero => exact (h4 _ rfl).elim
     | succ j => rfl
    | _ => rfl
   | _ => rfl
  rw [e] at h
  exact (Fz.keep (Keeps.sub hO) (h.fz hc)).den _
theorem b1s {ν : List Value} {w : World} {O O' : Nat -> Prop} {k : Nat} {x : Value} (hk : ν[k]? = some x) (hO : ∀ b, O' b -> O b) : ∀ {cs : List C} {vs : List Value}, cs.all okA = true -> j5 ν w O (cs.map (at0 k)) vs -> j5 [x] w O' cs vs
 | [], vs, _, h => by simpa only [c2b, j5] using h
 | c :: cs, vs, hc, h => by
  simp only [c1F, j5, List.all_cons, c1t] at h hc ⊢
  obtain ⟨y, ys, e, h1, h2⟩ := h
  exact ⟨y, ys, e, b8W hk hO hc.1 h1, b1s hk hO hc.2 h2⟩
theorem l6.lift {E : Ctx} {rs : List Res} {k f : Nat} {args : List C} {s : C} {r r' : Res} (hk : rs[k]? = some r) (h : l6 E [r] f args s [r'] []) (hs : (r.shut && r'.shut) = true) (ha : args.all okA = true) (hc : s.cl = true) : l6 E rs f (args.map (at0 k)) s (rs.set k r') [] := by
 rw [c1t] at hs
 intro av ν w vs hR hav hF hD
 obtain ⟨x, hx, hok⟩ := hR.res k r hk
 have hown : ∀ b, fp r x b -> owned rs ν b := fun b hb => ⟨k, r, x, hk, hx, hb⟩
 have ho1 : ∀ (q : Res) b, owned [q] [x] b <-> fp q x b := fun q b => by
  constructor
  ·rintro ⟨l, q', y, h1, h2, h3⟩
   cases l with
   | zero => simp at h1 h2; subst h1 h2; exact h3
   | succ l => simp at h1
  ·exact fun hb => ⟨0, q, x, rfl, rfl, hb⟩
 let av' : Nat -> Prop := fun b => OO av rs ν b /\ ¬ fp r x b
 have hOO : ∀ b, OO av' [r] [x] b -> OO av rs ν b := fun b hb => by
  rcases hb with hb | hb
  ·exact hb.1
  ·exact .inr (hown b ((ho1 r b).1 hb))
 have hRG : RG av' E.own0 E.w0.heap.size [x] [r] w := by
  refine ⟨rfl, fun l q hq => ?_, fun l m q q' y y' b hne h1 h2 => ?_, fun b hb => ?_, fun b hb => ?_, hR.n0⟩
  ·cases l with
   | zero => simp at hq; subst hq; exact ⟨x, rfl, a5f hs.1 hOO hok⟩
   | succ l => simp at hq
  ·have e1 : l = 0 := by have := (c1r.1 h1).1; simp at this; exact this
   have e2 : m = 0 := by have := (c1r.1 h2).1; simp at this; exact this
   omega
  ·have hb' := (ho1 r b).1 hb
   obtain ⟨g1, g2, g3⟩ := hR.low b (hown b hb')
   exact ⟨g1, fun h => h.2 hb', g3⟩
  ·rcases hb.1 with h1 | h1
   ·exact hR.av b h1
   ·exact (hR.low b h1).1
 have hav' : ∀ b, E.av b -> av' b := fun b hb => ⟨.inl (hav b hb), fun hf => (hR.low b (hown b hf)).2.1 (hav b hb)⟩
 have hD' : j5 [x] w (OO av' [r] [x]) args vs := b1s hx hOO ha hD
 refine (h av' [x] w vs hRG hav' hF hD').mono ?_
 rintro e w' ⟨y, ν', rfl, h1, h2, h3⟩
 have hν : ν' = [x] := by
  have hl := h1.len
  have h0 := h2.nu 0 x (fun hm => by cases hm) rfl
  match ν', hl, h0 with
  | [z], _, h0 => simp at h0; rw [h0]
 subst hν
 have hT : Turned w w' (fp r x) := ⟨h2.os, h2.tape, h2.output, h2.size, fun b hb hn => h2.block b hb fun ho => hn ((ho1 r b).1 ho)⟩
 have hOO' : ∀ b, OO av (rs.set k r') ν b -> OO av' [r'] [x] b := fun b hb => by
  rcases hb with hb | ⟨l, q, z, hq, hz, hf⟩
  ·exact .inl ⟨.inl hb, fun hf => (hR.low b (hown b hf)).2.1 hb⟩
  ·by_cases e : k = l
   ·subst e
    have hkl := (c1r.1 hk).1
    rw [List.getElem?_set_self hkl] at hq
    rw [hx] at hz
    cases hq
    cases hz
    exact .inr ((ho1 r' b).2 hf)
   ·rw [List.getElem?_set_ne e] at hq
    exact .inl ⟨.inr ⟨l, q, z, hq, hz, hf⟩, fun hf' => hR.dis k l r q x z b e hk hq hx hz hf' hf⟩
 have hup := hR.upd (r' := r') hk hx hT (fun b hb => b9y hs.1 hb) (fun _ => by
  obtain ⟨x', hx', hok'⟩ := h1.res 0 r' rfl
  simp at hx'
  subst hx'
  exact a5f hs.2 hOO' hok')
 exact ⟨y, ν, rfl, hup.1, hup.2, (Fz.keep (Keeps.sub hOO') (h3.fz hc)).den ν⟩
end Go.Proofs.YtpjjiegfigpgnaaGreatDoor.Eng
namespace Go.Proofs.YtpjjiegfigpgnaaGreatDoor
open Go Go.RowKit Eng
set_option maxRecDepth 10000
set_option maxHeartbeats 8000000
theorem c0Q (n : Nms) (s : List UInt8) : (a0U (.string (bs s)) (nmE n)).getD (.bool false) = .bool (n.contains s) := by
 rw [b9m]; cases n.contains s <;> rfl
theorem b1d {E : Ctx} (hP : E.P = Tryz.prog) (n : Nms) (s : List UInt8) (hs : s.length <= 1099511627776) :
  l6 E [.map true (nmE n)] 50 [.mp 0, sb s] (ints (K6 n s).1) [.map true (nmE (K6 n s).2)] [] := by
 obtain ⟨P, eff', N, w0, own0, av0, nu0, pk0⟩ := E
 simp only at hP
 subst hP
 refine l6.of (eff := eff) Tryz.func50 (by cbv) (by exact c1E rfl) fun w own av ν hν => ?_
 have hν0 : ν.length <= 1 := by rw [hν]; exact c1w _
 have h1 := b8N s hs
 have hk := c0Q n s
 have hp := c0r n s
 unfold K6
 generalize a1n s = q at *
 generalize n.contains s = c at *
 simp only [j6]
 simp only [sb, ints] at *
 (repeat first | refine uA ?_ | (refine uK ?_ ?_; focus first | omega | (intros; simp_all <;> omega)) | simp (disch := omega) only [go_sem, Nat.reduceBEq, Nat.reduceAdd, ww] | (refine uB h1 ?_ ?_; exact rfl))
 refine S.cond rfl (fun hc => ?_) (fun hc => ?_)
 ·rw [if_pos (by simpa using hc)]
  (repeat first | refine uA ?_ | (refine uK ?_ ?_; focus first | omega | (intros; simp_all <;> omega)) | simp (disch := omega) only [go_sem, Nat.reduceBEq, Nat.reduceAdd, ww])
  (refine S.done ?_; simp only [q8, l9, go_sem, Nat.reduceBEq, Nat.reduceAdd, Nat.reduceLeDiff, Int.reduceToNat, Int.reducePow]; (repeat (refine ⟨?_, ?_⟩; focus first | trivial | omega | simp)); exact j3.O0 (Imp.refl rfl) (by (repeat first | refine uA ?_ | (refine ⟨?_, ?_⟩; focus first | rfl | simp [slot]) | rfl | simp)) (c1s hν0 (by simp)))
 rw [if_neg (by simpa using hc)]
 (repeat first | refine uA ?_ | (refine uK ?_ ?_; focus first | omega | (intros; simp_all <;> omega)) | simp (disch := omega) only [go_sem, Nat.reduceBEq, Nat.reduceAdd, ww, hk])
 refine S.cond rfl (fun hc => ?_) (fun hc => ?_)
 ·rw [if_pos hc]
  (repeat first | refine uA ?_ | (refine uK ?_ ?_; focus first | omega | (intros; simp_all <;> omega)) | simp (disch := omega) only [go_sem, Nat.reduceBEq, Nat.reduceAdd, ww])
  (refine S.done ?_; simp only [q8, l9, go_sem, Nat.reduceBEq, Nat.reduceAdd, Nat.reduceLeDiff, Int.reduceToNat, Int.reducePow]; (repeat (refine ⟨?_, ?_⟩; focus first | trivial | omega | simp)); exact j3.O0 (Imp.refl rfl) (by (repeat first | refine uA ?_ | (refine ⟨?_, ?_⟩; focus first | rfl | simp [slot]) | rfl | simp)) (c1s hν0 (by simp)))
 ·rw [if_neg (by rw [hc]; decide)]
  have hp := hp hc
  (repeat first | refine uA ?_ | (refine uK ?_ ?_; focus first | omega | (intros; simp_all <;> omega)) | simp (disch := omega) only [go_sem, Nat.reduceBEq, Nat.reduceAdd, ww, hp])
  (refine S.done ?_; simp only [q8, l9, go_sem, Nat.reduceBEq, Nat.reduceAdd, Nat.reduceLeDiff, Int.reduceToNat, Int.reducePow]; (repeat (refine ⟨?_, ?_⟩; focus first | trivial | omega | simp)); exact j3.O0 (Imp.refl rfl) (by (repeat first | refine uA ?_ | (refine ⟨?_, ?_⟩; focus first | rfl | simp [slot]) | rfl | simp)) (c1s hν0 (by simp)))
theorem c0u {E : Ctx} (hP : E.P = Tryz.prog) (ht0 : Tz E) (n : Nms) (p : Pt) (hb : Pb 1073741824 p) :
  l6 E [.map true (nmE n)] 55 [.mp 0, p.c] (ints (a0E n p).1) [.map true (nmE (a0E n p).2)] [] := by
 obtain ⟨P, eff', N, w0, own0, av0, nu0, pk0⟩ := E
 simp only at hP
 subst hP
 refine l6.ofT (eff := eff) ht0 Tryz.func55 (by cbv) (by exact c1E rfl) fun w own av ν hν ht => ?_
 have hν0 : ν.length <= 1 := by rw [hν]; exact c1w _
 obtain ⟨name, shape, ⟨x, y, half, t⟩⟩ := p
 obtain ⟨b0, b1, b2, b3, b4⟩ := hb
 simp only at b0 b1 b2 b3 b4
 have h1 := fun (E : Ctx) (hP : E.P = Tryz.prog) => b1d hP n name (by omega)
 have h2 := b2A shape b1
 have h3 := b2B ⟨x, y, half, t⟩ ⟨b2.mono (by decide), b3.mono (by decide), b4.mono (by decide)⟩
 unfold a0E
 simp only
 generalize K6 n name = r at *
 obtain ⟨e1, m⟩ := r
 generalize J8 shape = e2 at *
 generalize okF ⟨x, y, half, t⟩ = q at *
 simp only [j6]
 simp only [Pt.c, Pt.enc, Fr.c, Fr.enc, vts, sb, ints] at *
 (repeat first | refine uA ?_ | (refine uK ?_ ?_; focus first | omega | (intros; simp_all <;> omega)) | simp (disch := omega) only [go_sem, Nat.reduceBEq, Nat.reduceAdd, ww] | refine l8.t (l6.lift (k := 0) rfl (h1 _ rfl) rfl rfl rfl) ?_)
 refine S.cond rfl (fun hc => ?_) (fun hc => ?_)
 ·rw [if_pos (by simpa using hc)]
  (repeat first | refine uA ?_ | (refine uK ?_ ?_; focus first | omega | (intros; simp_all <;> omega)) | simp (disch := omega) only [go_sem, Nat.reduceBEq, Nat.reduceAdd, ww])
  (refine S.done ?_; simp only [q8, l9, go_sem, Nat.reduceBEq, Nat.reduceAdd, Nat.reduceLeDiff, Int.reduceToNat, Int.reducePow]; (repeat (refine ⟨?_, ?_⟩; focus first | trivial | omega | simp)); exact j3.O0 (Imp.refl rfl) (by (repeat first | refine uA ?_ | (refine ⟨?_, ?_⟩; focus first | rfl | simp [slot]) | rfl | simp)) (c1s hν0 (by simp)))
 rw [if_neg (by simpa using hc)]
 (repeat first | refine uA ?_ | (refine uK ?_ ?_; focus first | omega | (intros; simp_all <;> omega)) | simp (disch := omega) only [go_sem, Nat.reduceBEq, Nat.reduceAdd, ww] | (refine uD h2 ?_ ?_ ?_; exact ht; exact rfl))
 refine S.cond rfl (fun hc => ?_) (fun hc => ?_)
 ·rw [if_pos (by simpa using hc)]
  (repeat first | refine uA ?_ | (refine uK ?_ ?_; focus first | omega | (intros; simp_all <;> omega)) | simp (disch := omega) only [go_sem, Nat.reduceBEq, Nat.reduceAdd, ww])
  (refine S.done ?_; simp only [q8, l9, go_sem, Nat.reduceBEq, Nat.reduceAdd, Nat.reduceLeDiff, Int.reduceToNat, Int.reducePow]; (repeat (refine ⟨?_, ?_⟩; focus first | trivial | omega | simp)); exact j3.O0 (Imp.refl rfl) (by (repeat first | refine uA ?_ | (refine ⟨?_, ?_⟩; focus first | rfl | simp [slot]) | rfl | simp)) (c1s hν0 (by simp)))
 rw [if_neg (by simpa using hc)]
 (repeat first | refine uA ?_ | (refine uK ?_ ?_; focus first | omega | (intros; simp_all <;> omega)) | simp (disch := omega) only [go_sem, Nat.reduceBEq, Nat.reduceAdd, ww] | (refine uD h3 ?_ ?_ ?_; exact ht; exact rfl))
 refine S.cond rfl (fun hc => ?_) (fun hc => ?_)
 ·rw [if_neg (by simpa using hc)]
  (repeat first | refine uA ?_ | (refine uK ?_ ?_; focus first | omega | (intros; simp_all <;> omega)) | simp (disch := omega) only [go_sem, Nat.reduceBEq, Nat.reduceAdd, ww])
  (refine S.done ?_; simp only [q8, l9, go_sem, Nat.reduceBEq, Nat.reduceAdd, Nat.reduceLeDiff, Int.reduceToNat, Int.reducePow]; (repeat (refine ⟨?_, ?_⟩; focus first | trivial | omega | simp)); exact j3.O0 (Imp.refl rfl) (by (repeat first | refine uA ?_ | (refine ⟨?_, ?_⟩; focus first | rfl | simp [slot]) | rfl | simp)) (c1s hν0 (by simp)))
 ·rw [if_pos (by simpa using hc)]
  (repeat first | refine uA ?_ | (refine uK ?_ ?_; focus first | omega | (intros; simp_all <;> omega)) | simp (disch := omega) only [go_sem, Nat.reduceBEq, Nat.reduceAdd, ww])
  (refine S.done ?_; simp only [q8, l9, go_sem, Nat.reduceBEq, Nat.reduceAdd, Nat.reduceLeDiff, Int.reduceToNat, Int.reducePow]; (repeat (refine ⟨?_, ?_⟩; focus first | trivial | omega | simp)); exact j3.O0 (Imp.refl rfl) (by (repeat first | refine uA ?_ | (refine ⟨?_, ?_⟩; focus first | rfl | simp [slot]) | rfl | simp)) (c1s hν0 (by simp)))
theorem c0q {E : Ctx} (hP : E.P = Tryz.prog) (ht0 : Tz E) (n : Nms) (s : Sl) (hb : Sb 1073741824 s) :
  l6 E [.map true (nmE n)] 57 [.mp 0, s.c] (ints (a0y n s).1) [.map true (nmE (a0y n s).2)] [] := by
 obtain ⟨P, eff', N, w0, own0, av0, nu0, pk0⟩ := E
 simp only at hP
 subst hP
 refine l6.ofT (eff := eff) ht0 Tryz.func57 (by cbv) (by exact c1E rfl) fun w own av ν hν ht => ?_
 have hν0 : ν.length <= 1 := by rw [hν]; exact c1w _
 obtain ⟨name, ⟨x, y, half, t⟩, within⟩ := s
 obtain ⟨b0, ⟨b2, b3, b4⟩, b5⟩ := hb
 simp only at b0 b2 b3 b4 b5
 have h1 := fun (E : Ctx) (hP : E.P = Tryz.prog) => b1d hP n name (by omega)
 have h3 := b2B ⟨x, y, half, t⟩ ⟨b2.mono (by decide), b3.mono (by decide), b4.mono (by decide)⟩
 have h4 := a1b within (b5.mono (by decide))
 have h5 := a3x within (b5.mono (by decide))
 have h6 := Z4 within (b5.mono (by decide))
 unfold a0y
 simp only
 generalize K6 n name = r at *
 obtain ⟨e1, m⟩ := r
 generalize okF ⟨x, y, half, t⟩ = q1 at *
 generalize decide within.G5 = q2 at *
 generalize j4 within = q3 at *
 generalize F3 (Nm.d9 within) = n4 at *
 simp only [j6]
 simp only [Sl.c, Sl.enc, Fr.c, Fr.enc, vts, rc, sb, ints] at *
 (repeat first | refine uA ?_ | (refine uK ?_ ?_; focus first | omega | (intros; simp_all <;> omega)) | simp (disch := omega) only [go_sem, Nat.reduceBEq, Nat.reduceAdd, ww] | refine l8.t (l6.lift (k := 0) rfl (h1 _ rfl) rfl rfl rfl) ?_)
 refine S.cond rfl (fun hc => ?_) (fun hc => ?_)
 ·rw [if_pos (by simpa using hc)]
  (repeat first | refine uA ?_ | (refine uK ?_ ?_; focus first | omega | (intros; simp_all <;> omega)) | simp (disch := omega) only [go_sem, Nat.reduceBEq, Nat.reduceAdd, ww])
  (refine S.done ?_; simp only [q8, l9, go_sem, Nat.reduceBEq, Nat.reduceAdd, Nat.reduceLeDiff, Int.reduceToNat, Int.reducePow]; (repeat (refine ⟨?_, ?_⟩; focus first | trivial | omega | simp)); exact j3.O0 (Imp.refl rfl) (by (repeat first | refine uA ?_ | (refine ⟨?_, ?_⟩; focus first | rfl | simp [slot]) | rfl | simp)) (c1s hν0 (by simp)))
 rw [if_neg (by simpa using hc)]
 (repeat first | refine uA ?_ | (refine uK ?_ ?_; focus first | omega | (intros; simp_all <;> omega)) | simp (disch := omega) only [go_sem, Nat.reduceBEq, Nat.reduceAdd, ww] | (refine uD h3 ?_ ?_ ?_; exact ht; exact rfl) | (refine uD h4 ?_ ?_ ?_; exact ht; exact rfl) | (refine uD h5 ?_ ?_ ?_; exact ht; exact rfl) | (refine uD h6 ?_ ?_ ?_; exact ht; exact rfl))
 refine S.cond rfl (fun hc => ?_) (fun hc => ?_)
 ·rw [if_neg (by simp only [c2d, Bool.not_eq_true', c1v] at hc; simp only [c1t, c1v]; rintro ⟨⟨⟨h7, h8⟩, h9⟩, h10⟩; rcases hc with ((hc | hc) | hc) | hc <;> first | (rw [hc] at h7; cases h7; done) | (rw [hc] at h8; cases h8; done) | (rw [hc] at h9; cases h9; done) | omega)]
  (repeat first | refine uA ?_ | (refine uK ?_ ?_; focus first | omega | (intros; simp_all <;> omega)) | simp (disch := omega) only [go_sem, Nat.reduceBEq, Nat.reduceAdd, ww])
  (refine S.done ?_; simp only [q8, l9, go_sem, Nat.reduceBEq, Nat.reduceAdd, Nat.reduceLeDiff, Int.reduceToNat, Int.reducePow]; (repeat (refine ⟨?_, ?_⟩; focus first | trivial | omega | simp)); exact j3.O0 (Imp.refl rfl) (by (repeat first | refine uA ?_ | (refine ⟨?_, ?_⟩; focus first | rfl | simp [slot]) | rfl | simp)) (c1s hν0 (by simp)))
 ·rw [if_pos (by simp only [c1J, Bool.not_eq_false', c1A] at hc; simp only [c1t, c1v]; obtain ⟨⟨⟨h7, h8⟩, h9⟩, h10⟩ := hc; exact ⟨⟨⟨h7, h8⟩, h9⟩, by omega⟩)]
  (repeat first | refine uA ?_ | (refine uK ?_ ?_; focus first | omega | (intros; simp_all <;> omega)) | simp (disch := omega) only [go_sem, Nat.reduceBEq, Nat.reduceAdd, ww])
  (refine S.done ?_; simp only [q8, l9, go_sem, Nat.reduceBEq, Nat.reduceAdd, Nat.reduceLeDiff, Int.reduceToNat, Int.reducePow]; (repeat (refine ⟨?_, ?_⟩; focus first | trivial | omega | simp)); exact j3.O0 (Imp.refl rfl) (by (repeat first | refine uA ?_ | (refine ⟨?_, ?_⟩; focus first | rfl | simp [slot]) | rfl | simp)) (c1s hν0 (by simp)))
theorem c0o {E : Ctx} (hP : E.P = Tryz.prog) (ht0 : Tz E) (n : Nms) (g : Gt) (hb : Gb 1073741824 g) :
  l6 E [.map true (nmE n)] 59 [.mp 0, g.c] (ints (a0C n g).1) [.map true (nmE (a0C n g).2)] [] := by
 obtain ⟨P, eff', N, w0, own0, av0, nu0, pk0⟩ := E
 simp only at hP
 subst hP
 refine l6.ofT (eff := eff) ht0 Tryz.func59 (by cbv) (by exact c1E rfl) fun w own av ν hν ht => ?_
 have hν0 : ν.length <= 1 := by rw [hν]; exact c1w _
 obtain ⟨name, ⟨lx, ly⟩, ⟨hx, hy⟩⟩ := g
 obtain ⟨b0, ⟨b1, b2⟩, ⟨b3, b4⟩⟩ := hb
 simp only at b0 b1 b2 b3 b4
 have h1 := fun (E : Ctx) (hP : E.P = Tryz.prog) => b1d hP n name (by omega)
 have h3 := a8b [⟨lx, ly⟩, ⟨hx, hy⟩] (Vbs.two (by decide) ⟨b1.mono (by decide), b2.mono (by decide)⟩ ⟨b3.mono (by decide), b4.mono (by decide)⟩)
 rw [a9J] at h3
 have h4 := X5 lx hx (b1.mono (by decide)) (b3.mono (by decide))
 have h5 := X5 ly hy (b2.mono (by decide)) (b4.mono (by decide))
 unfold a0C
 simp only
 generalize K6 n name = r at *
 obtain ⟨e1, m⟩ := r
 generalize (okV ⟨lx, ly⟩ && okV ⟨hx, hy⟩) = q1 at *
 generalize Nm.C8 (Nm.d9 lx) (Nm.d9 hx) = n1 at *
 generalize Nm.C8 (Nm.d9 ly) (Nm.d9 hy) = n2 at *
 simp only [j6]
 simp only [Gt.c, Gt.enc, vts, Vt.enc, rc, sb, ints, c1F, c2b] at *
 (repeat first | refine uA ?_ | (refine uK ?_ ?_; focus first | omega | (intros; simp_all <;> omega)) | simp (disch := omega) only [go_sem, Nat.reduceBEq, Nat.reduceAdd, ww] | refine l8.t (l6.lift (k := 0) rfl (h1 _ rfl) rfl rfl rfl) ?_)
 refine S.cond rfl (fun hc => ?_) (fun hc => ?_)
 ·rw [if_pos (by simpa using hc)]
  (repeat first | refine uA ?_ | (refine uK ?_ ?_; focus first | omega | (intros; simp_all <;> omega)) | simp (disch := omega) only [go_sem, Nat.reduceBEq, Nat.reduceAdd, ww])
  (refine S.done ?_; simp only [q8, l9, go_sem, Nat.reduceBEq, Nat.reduceAdd, Nat.reduceLeDiff, Int.reduceToNat, Int.reducePow]; (repeat (refine ⟨?_, ?_⟩; focus first | trivial | omega | simp)); exact j3.O0 (Imp.refl rfl) (by (repeat first | refine uA ?_ | (refine ⟨?_, ?_⟩; focus first | rfl | simp [slot]) | rfl | simp)) (c1s hν0 (by simp)))
 rw [if_neg (by simpa using hc)]
 (repeat first | refine uA ?_ | (refine uK ?_ ?_; focus first | omega | (intros; simp_all <;> omega)) | simp (disch := omega) only [go_sem, Nat.reduceBEq, Nat.reduceAdd, ww] | (refine uD h4 ?_ ?_ ?_; exact ht; exact rfl) | (refine uD h5 ?_ ?_ ?_; exact ht; exact rfl) | (refine uE h3 ?_ ?_ ?_ ?_; exact ht; exact rfl; focus (repeat' first | exact p8.nil | exact Imp.refl rfl | exact Imp.frz rfl rfl rfl | (refine Imp.a0x rfl rfl ?_ ?_; (focus ((try simp only [c1C]); omega)); (focus first | rfl | assumption)) | refine p8.cons ?_ ?_); done))
 refine S.cond rfl (fun hc => ?_) (fun hc => ?_)
 ·rw [if_neg (by simp only [c2d, Bool.not_eq_true', c1v] at hc; simp only [c1t, c1v]; rintro ⟨⟨h7, h8⟩, h9⟩; rcases hc with (hc | hc) | hc <;> first | (rw [hc] at h7; cases h7; done) | omega)]
  (repeat first | refine uA ?_ | (refine uK ?_ ?_; focus first | omega | (intros; simp_all <;> omega)) | simp (disch := omega) only [go_sem, Nat.reduceBEq, Nat.reduceAdd, ww])
  (refine S.done ?_; simp only [q8, l9, go_sem, Nat.reduceBEq, Nat.reduceAdd, Nat.reduceLeDiff, Int.reduceToNat, Int.reducePow]; (repeat (refine ⟨?_, ?_⟩; focus first | trivial | omega | simp)); exact j3.O0 (Imp.refl rfl) (by (repeat first | refine uA ?_ | (refine ⟨?_, ?_⟩; focus first | rfl | simp [slot]) | rfl | simp)) (c1s hν0 (by simp)))
 ·rw [if_pos (by simp only [c1J, Bool.not_eq_false', c1A] at hc; simp only [c1t, c1v]; obtain ⟨⟨h7, h8⟩, h9⟩ := hc; exact ⟨⟨h7, by omega⟩, by omega⟩)]
  (repeat first | refine uA ?_ | (refine uK ?_ ?_; focus first | omega | (intros; simp_all <;> omega)) | simp (disch := omega) only [go_sem, Nat.reduceBEq, Nat.reduceAdd, ww])
  (refine S.done ?_; simp only [q8, l9, go_sem, Nat.reduceBEq, Nat.reduceAdd, Nat.reduceLeDiff, Int.reduceToNat, Int.reducePow]; (repeat (refine ⟨?_, ?_⟩; focus first | trivial | omega | simp)); exact j3.O0 (Imp.refl rfl) (by (repeat first | refine uA ?_ | (refine ⟨?_, ?_⟩; focus first | rfl | simp [slot]) | rfl | simp)) (c1s hν0 (by simp)))
theorem b4z {E : Ctx} (hP : E.P = Tryz.prog) (ht0 : Tz E) (n : Nms) (l : List Pt) (hn : l.length <= 1073741824) (hb : ∀ x ∈ l, Pb 1073741824 x) :
  l6 E [.map true (nmE n)] 54 [pts l, .bnd 55 (.mp 0)] (ints (u6 a0E n l).1) [.map true (nmE (u6 a0E n l).2)] [] := by
 obtain ⟨P, eff', N, w0, own0, av0, nu0, pk0⟩ := E
 simp only at hP
 subst hP
 refine l6.ofT (eff := eff) ht0 Tryz.func54 (by cbv) (by exact c1E rfl) fun w own av ν hν ht => ?_
 have hν0 : ν.length <= 1 := by rw [hν]; exact c1w _
 simp only [j6, pts, ints]
 (repeat first | refine uA ?_ | (refine uK ?_ ?_; focus first | omega | trivial | (intros; simp_all <;> omega)) | simp (disch := omega) only [go_sem, Nat.reduceBEq, Nat.reduceAdd, Nat.reduceLeDiff, Int.reduceToNat, Int.reducePow, ww, c1o])
 refine S.loop (X := Nat × Nms) (fun x => ⟨[(1, .bnd 55 (.mp 0)), (8, pts l), (9, ints l.length), (10, ints x.1)], [.map true (nmE x.2)]⟩) (fun x => x.1 <= l.length /\ u6 a0E n l = u6 a0E x.2 (l.drop x.1)) (fun x => l.length - x.1) (0, n) ⟨c1u _, rfl⟩ (by (repeat first | refine uA ?_ | (refine ⟨?_, ?_⟩; focus first | rfl | trivial | (simp [slot]; done)) | rfl | trivial | simp | exact c1s hν0 (by simp))) ?_
 rintro ⟨i, m⟩ ⟨hi, hg⟩
 simp only [pts, ints] at hi hg ⊢
 (repeat first | refine uA ?_ | (refine uK ?_ ?_; focus first | omega | trivial | (intros; simp_all <;> omega)) | simp (disch := omega) only [go_sem, Nat.reduceBEq, Nat.reduceAdd, Nat.reduceLeDiff, Int.reduceToNat, Int.reducePow, ww])
 (refine uJ rfl (fun hc => ?_) fun hc => ?_)
 ·have hi' : i < l.length := by omega
  have hgi := c1n hi'
  generalize l[i] = x at hgi
  have hst := a2m (f := a0E) (s := m) hgi
  have hnx := a2l (f := a0E) (s := m) hgi
  have hs := fun (E : Ctx) (hP : E.P = Tryz.prog) (ht : Tz E) => c0u hP ht m x (hb x (c1q hgi))
  generalize a0E m x = r at *
  obtain ⟨e, m'⟩ := r
  simp only [Pt.c, Pt.enc, vts, sb, ints] at hs hst hnx
  (repeat first | refine uA ?_ | (refine uK ?_ ?_; focus first | omega | trivial | (intros; simp_all <;> omega)) | simp (disch := omega) only [go_sem, Nat.reduceBEq, Nat.reduceAdd, Nat.reduceLeDiff, Int.reduceToNat, Int.reducePow, ww, hgi, c1p, c1o, Pt.c, Pt.enc, vts, sb] | refine l8.t (l6.lift (k := 0) rfl (hs _ rfl ht) rfl rfl rfl) ?_)
  refine S.cond rfl (fun hc2 => ?_) (fun hc2 => ?_)
  ·rw [hg, hst (by simpa using hc2)]
   (repeat first | refine uA ?_ | (refine uK ?_ ?_; focus first | omega | trivial | (intros; simp_all <;> omega)) | simp (disch := omega) only [go_sem, Nat.reduceBEq, Nat.reduceAdd, Nat.reduceLeDiff, Int.reduceToNat, Int.reducePow, ww])
   (refine S.done ?_; simp only [q8, l9, go_sem, Nat.reduceBEq, Nat.reduceAdd, Nat.reduceLeDiff, Int.reduceToNat, Int.reducePow]; (repeat (refine ⟨?_, ?_⟩; focus first | trivial | omega | simp)); exact j3.O0 (Imp.refl rfl) (by (repeat first | refine uA ?_ | (refine ⟨?_, ?_⟩; focus first | rfl | trivial | (simp [slot]; done)) | rfl | trivial | simp)) (c1s hν0 (by simp)))
  ·have hc3 : e = 0 := by simpa using hc2
   (repeat first | refine uA ?_ | (refine uK ?_ ?_; focus first | omega | trivial | (intros; simp_all <;> omega)) | simp (disch := omega) only [go_sem, Nat.reduceBEq, Nat.reduceAdd, Nat.reduceLeDiff, Int.reduceToNat, Int.reducePow, ww])
   refine S.next (x := (i, m)) (i + 1, m') ⟨by simp only; omega, by simp only; rw [hg, hnx hc3]⟩ (by simp only; omega) (by (repeat first | refine uA ?_ | (refine ⟨?_, ?_⟩; focus first | rfl | trivial | (simp [slot]; done)) | rfl | trivial | simp | exact c1s hν0 (by simp)))
 ·rw [hg, a2T (by omega)]
  (repeat first | refine uA ?_ | (refine uK ?_ ?_; focus first | omega | trivial | (intros; simp_all <;> omega)) | simp (disch := omega) only [go_sem, Nat.reduceBEq, Nat.reduceAdd, Nat.reduceLeDiff, Int.reduceToNat, Int.reducePow, ww])
  (refine S.done ?_; simp only [q8, l9, go_sem, Nat.reduceBEq, Nat.reduceAdd, Nat.reduceLeDiff, Int.reduceToNat, Int.reducePow]; (repeat (refine ⟨?_, ?_⟩; focus first | trivial | omega | simp)); exact j3.O0 (Imp.refl rfl) (by (repeat first | refine uA ?_ | (refine ⟨?_, ?_⟩; focus first | rfl | trivial | (simp [slot]; done)) | rfl | trivial | simp)) (c1s hν0 (by simp)))
theorem b4r {E : Ctx} (hP : E.P = Tryz.prog) (ht0 : Tz E) (n : Nms) (l : List Sl) (hn : l.length <= 1073741824) (hb : ∀ x ∈ l, Sb 1073741824 x) :
  l6 E [.map true (nmE n)] 56 [sls l, .bnd 57 (.mp 0)] (ints (u6 a0y n l).1) [.map true (nmE (u6 a0y n l).2)] [] := by
 obtain ⟨P, eff', N, w0, own0, av0, nu0, pk0⟩ := E
 simp only at hP
 subst hP
 refine l6.ofT (eff := eff) ht0 Tryz.func56 (by cbv) (by exact c1E rfl) fun w own av ν hν ht => ?_
 have hν0 : ν.length <= 1 := by rw [hν]; exact c1w _
 simp only [j6, sls, ints]
 (repeat first | refine uA ?_ | (refine uK ?_ ?_; focus first | omega | trivial | (intros; simp_all <;> omega)) | simp (disch := omega) only [go_sem, Nat.reduceBEq, Nat.reduceAdd, Nat.reduceLeDiff, Int.reduceToNat, Int.reducePow, ww, c1o])
 refine S.loop (X := Nat × Nms) (fun x => ⟨[(1, .bnd 57 (.mp 0)), (8, sls l), (9, ints l.length), (10, ints x.1)], [.map true (nmE x.2)]⟩) (fun x => x.1 <= l.length /\ u6 a0y n l = u6 a0y x.2 (l.drop x.1)) (fun x => l.length - x.1) (0, n) ⟨c1u _, rfl⟩ (by (repeat first | refine uA ?_ | (refine ⟨?_, ?_⟩; focus first | rfl | trivial | (simp [slot]; done)) | rfl | trivial | simp | exact c1s hν0 (by simp))) ?_
 rintro ⟨i, m⟩ ⟨hi, hg⟩
 simp only [sls, ints] at hi hg ⊢
 (repeat first | refine uA ?_ | (refine uK ?_ ?_; focus first | omega | trivial | (intros; simp_all <;> omega)) | simp (disch := omega) only [go_sem, Nat.reduceBEq, Nat.reduceAdd, Nat.reduceLeDiff, Int.reduceToNat, Int.reducePow, ww])
 (refine uJ rfl (fun hc => ?_) fun hc => ?_)
 ·have hi' : i < l.length := by omega
  have hgi := c1n hi'
  generalize l[i] = x at hgi
  have hst := a2m (f := a0y) (s := m) hgi
  have hnx := a2l (f := a0y) (s := m) hgi
  have hs := fun (E : Ctx) (hP : E.P = Tryz.prog) (ht : Tz E) => c0q hP ht m x (hb x (c1q hgi))
  generalize a0y m x = r at *
  obtain ⟨e, m'⟩ := r
  simp only [Sl.c, Sl.enc, sb, ints] at hs hst hnx
  (repeat first | refine uA ?_ | (refine uK ?_ ?_; focus first | omega | trivial | (intros; simp_all <;> omega)) | simp (disch := omega) only [go_sem, Nat.reduceBEq, Nat.reduceAdd, Nat.reduceLeDiff, Int.reduceToNat, Int.reducePow, ww, hgi, c1p, c1o, Sl.c, Sl.enc, sb] | refine l8.t (l6.lift (k := 0) rfl (hs _ rfl ht) rfl rfl rfl) ?_)
  refine S.cond rfl (fun hc2 => ?_) (fun hc2 => ?_)
  ·rw [hg, hst (by simpa using hc2)]
   (repeat first | refine uA ?_ | (refine uK ?_ ?_; focus first | omega | trivial | (intros; simp_all <;> omega)) | simp (disch := omega) only [go_sem, Nat.reduceBEq, Nat.reduceAdd, Nat.reduceLeDiff, Int.reduceToNat, Int.reducePow, ww])
   (refine S.done ?_; simp only [q8, l9, go_sem, Nat.reduceBEq, Nat.reduceAdd, Nat.reduceLeDiff, Int.reduceToNat, Int.reducePow]; (repeat (refine ⟨?_, ?_⟩; focus first | trivial | omega | simp)); exact j3.O0 (Imp.refl rfl) (by (repeat first | refine uA ?_ | (refine ⟨?_, ?_⟩; focus first | rfl | trivial | (simp [slot]; done)) | rfl | trivial | simp)) (c1s hν0 (by simp)))
  ·have hc3 : e = 0 := by simpa using hc2
   (repeat first | refine uA ?_ | (refine uK ?_ ?_; focus first | omega | trivial | (intros; simp_all <;> omega)) | simp (disch := omega) only [go_sem, Nat.reduceBEq, Nat.reduceAdd, Nat.reduceLeDiff, Int.reduceToNat, Int.reducePow, ww])
   refine S.next (x := (i, m)) (i + 1, m') ⟨by simp only; omega, by simp only; rw [hg, hnx hc3]⟩ (by simp only; omega) (by (repeat first | refine uA ?_ | (refine ⟨?_, ?_⟩; focus first | rfl | trivial | (simp [slot]; done)) | rfl | trivial | simp | exact c1s hν0 (by simp)))
 ·rw [hg, a2T (by omega)]
  (repeat first | refine uA ?_ | (refine uK ?_ ?_; focus first | omega | trivial | (intros; simp_all <;> omega)) | simp (disch := omega) only [go_sem, Nat.reduceBEq, Nat.reduceAdd, Nat.reduceLeDiff, Int.reduceToNat, Int.reducePow, ww])
  (refine S.done ?_; simp only [q8, l9, go_sem, Nat.reduceBEq, Nat.reduceAdd, Nat.reduceLeDiff, Int.reduceToNat, Int.reducePow]; (repeat (refine ⟨?_, ?_⟩; focus first | trivial | omega | simp)); exact j3.O0 (Imp.refl rfl) (by (repeat first | refine uA ?_ | (refine ⟨?_, ?_⟩; focus first | rfl | trivial | (simp [slot]; done)) | rfl | trivial | simp)) (c1s hν0 (by simp)))
theorem b4Q {E : Ctx} (hP : E.P = Tryz.prog) (ht0 : Tz E) (n : Nms) (l : List Gt) (hn : l.length <= 1073741824) (hb : ∀ x ∈ l, Gb 1073741824 x) :
  l6 E [.map true (nmE n)] 58 [gts l, .bnd 59 (.mp 0)] (ints (u6 a0C n l).1) [.map true (nmE (u6 a0C n l).2)] [] := by
 obtain ⟨P, eff', N, w0, own0, av0, nu0, pk0⟩ := E
 simp only at hP
 subst hP
 refine l6.ofT (eff := eff) ht0 Tryz.func58 (by cbv) (by exact c1E rfl) fun w own av ν hν ht => ?_
 have hν0 : ν.length <= 1 := by rw [hν]; exact c1w _
 simp only [j6, gts, ints]
 (repeat first | refine uA ?_ | (refine uK ?_ ?_; focus first | omega | trivial | (intros; simp_all <;> omega)) | simp (disch := omega) only [go_sem, Nat.reduceBEq, Nat.reduceAdd, Nat.reduceLeDiff, Int.reduceToNat, Int.reducePow, ww, c1o])
 refine S.loop (X := Nat × Nms) (fun x => ⟨[(1, .bnd 59 (.mp 0)), (8, gts l), (9, ints l.length), (10, ints x.1)], [.map true (nmE x.2)]⟩) (fun x => x.1 <= l.length /\ u6 a0C n l = u6 a0C x.2 (l.drop x.1)) (fun x => l.length - x.1) (0, n) ⟨c1u _, rfl⟩ (by (repeat first | refine uA ?_ | (refine ⟨?_, ?_⟩; focus first | rfl | trivial | (simp [slot]; done)) | rfl | trivial | simp | exact c1s hν0 (by simp))) ?_
 rintro ⟨i, m⟩ ⟨hi, hg⟩
 simp only [gts, ints] at hi hg ⊢
 (repeat first | refine uA ?_ | (refine uK ?_ ?_; focus first | omega | trivial | (intros; simp_all <;> omega)) | simp (disch := omega) only [go_sem, Nat.reduceBEq, Nat.reduceAdd, Nat.reduceLeDiff, Int.reduceToNat, Int.reducePow, ww])
 (refine uJ rfl (fun hc => ?_) fun hc => ?_)
 ·have hi' : i < l.length := by omega
  have hgi := c1n hi'
  generalize l[i] = x at hgi
  have hst := a2m (f := a0C) (s := m) hgi
  have hnx := a2l (f := a0C) (s := m) hgi
  have hs := fun (E : Ctx) (hP : E.P = Tryz.prog) (ht : Tz E) => c0o hP ht m x (hb x (c1q hgi))
  generalize a0C m x = r at *
  obtain ⟨e, m'⟩ := r
  simp only [Gt.c, Gt.enc, sb, ints] at hs hst hnx
  (repeat first | refine uA ?_ | (refine uK ?_ ?_; focus first | omega | trivial | (intros; simp_all <;> omega)) | simp (disch := omega) only [go_sem, Nat.reduceBEq, Nat.reduceAdd, Nat.reduceLeDiff, Int.reduceToNat, Int.reducePow, ww, hgi, c1p, c1o, Gt.c, Gt.enc, sb] | refine l8.t (l6.lift (k := 0) rfl (hs _ rfl ht) rfl rfl rfl) ?_)
  refine S.cond rfl (fun hc2 => ?_) (fun hc2 => ?_)
  ·rw [hg, hst (by simpa using hc2)]
   (repeat first | refine uA ?_ | (refine uK ?_ ?_; focus first | omega | trivial | (intros; simp_all <;> omega)) | simp (disch := omega) only [go_sem, Nat.reduceBEq, Nat.reduceAdd, Nat.reduceLeDiff, Int.reduceToNat, Int.reducePow, ww])
   (refine S.done ?_; simp only [q8, l9, go_sem, Nat.reduceBEq, Nat.reduceAdd, Nat.reduceLeDiff, Int.reduceToNat, Int.reducePow]; (repeat (refine ⟨?_, ?_⟩; focus first | trivial | omega | simp)); exact j3.O0 (Imp.refl rfl) (by (repeat first | refine uA ?_ | (refine ⟨?_, ?_⟩; focus first | rfl | trivial | (simp [slot]; done)) | rfl | trivial | simp)) (c1s hν0 (by simp)))
  ·have hc3 : e = 0 := by simpa using hc2
   (repeat first | refine uA ?_ | (refine uK ?_ ?_; focus first | omega | trivial | (intros; simp_all <;> omega)) | simp (disch := omega) only [go_sem, Nat.reduceBEq, Nat.reduceAdd, Nat.reduceLeDiff, Int.reduceToNat, Int.reducePow, ww])
   refine S.next (x := (i, m)) (i + 1, m') ⟨by simp only; omega, by simp only; rw [hg, hnx hc3]⟩ (by simp only; omega) (by (repeat first | refine uA ?_ | (refine ⟨?_, ?_⟩; focus first | rfl | trivial | (simp [slot]; done)) | rfl | trivial | simp | exact c1s hν0 (by simp)))
 ·rw [hg, a2T (by omega)]
  (repeat first | refine uA ?_ | (refine uK ?_ ?_; focus first | omega | trivial | (intros; simp_all <;> omega)) | simp (disch := omega) only [go_sem, Nat.reduceBEq, Nat.reduceAdd, Nat.reduceLeDiff, Int.reduceToNat, Int.reducePow, ww])
  (refine S.done ?_; simp only [q8, l9, go_sem, Nat.reduceBEq, Nat.reduceAdd, Nat.reduceLeDiff, Int.reduceToNat, Int.reducePow]; (repeat (refine ⟨?_, ?_⟩; focus first | trivial | omega | simp)); exact j3.O0 (Imp.refl rfl) (by (repeat first | refine uA ?_ | (refine ⟨?_, ?_⟩; focus first | rfl | trivial | (simp [slot]; done)) | rfl | trivial | simp)) (c1s hν0 (by simp)))
theorem b4Z (l : List (List Vt)) (hn : l.length <= 1073741824) (hb : ∀ x ∈ l, Vbs 1073741824 x) : FZ 52 [wls l, .v (.func (.func 53) #[] #[])] (ints (G9 J8 l)) := by
 refine kW Tryz.func52 (by cbv) (by rfl) fun w O hw => ?_
 have hcal : callable Tryz.prog 53 = true := by kernel_rfl
 simp only [j6, wls, ints]
 (repeat first | refine uA ?_ | (refine uK ?_ ?_; focus first | omega | trivial | (intros; simp_all <;> omega)) | simp (disch := omega) only [go_sem, Nat.reduceBEq, Nat.reduceAdd, Nat.reduceLeDiff, Int.reduceToNat, Int.reducePow, ww, c1o])
 refine S.loop (X := Nat) (fun i => ⟨[(1, .v (.func (.func 53) #[] #[])), (8, wls l), (9, ints l.length), (10, ints i)], []⟩) (fun i => i <= l.length /\ G9 J8 l = G9 J8 (l.drop i)) (fun i => l.length - i) 0 ⟨c1u _, rfl⟩ (by (repeat first | refine uA ?_ | (refine ⟨?_, ?_⟩; focus first | rfl | trivial | (simp [slot]; done)) | rfl | trivial | simp)) ?_
 rintro i ⟨hi, hg⟩
 simp only [wls, ints] at hi hg ⊢
 (repeat first | refine uA ?_ | (refine uK ?_ ?_; focus first | omega | trivial | (intros; simp_all <;> omega)) | simp (disch := omega) only [go_sem, Nat.reduceBEq, Nat.reduceAdd, Nat.reduceLeDiff, Int.reduceToNat, Int.reducePow, ww])
 (refine uJ rfl (fun hc => ?_) fun hc => ?_)
 ·have hi' : i < l.length := by omega
  have hgi := c1n hi'
  generalize l[i] = x at hgi
  have hst := a1B (f := J8) hgi
  have hnx := a1y (f := J8) hgi
  have hs := b2A x (hb x (c1q hgi))
  generalize J8 x = e at *
  simp only [ints] at hs
  (repeat first | refine uA ?_ | (refine uK ?_ ?_; focus first | omega | trivial | (intros; simp_all <;> omega)) | simp (disch := omega) only [go_sem, Nat.reduceBEq, Nat.reduceAdd, Nat.reduceLeDiff, Int.reduceToNat, Int.reducePow, ww, hgi, c1p, c1o, hcal] | (refine uD hs ?_ ?_ ?_; exact tz hw; exact rfl))
  refine S.cond rfl (fun hc2 => ?_) (fun hc2 => ?_)
  ·rw [hg, hst (by simpa using hc2)]
   (repeat first | refine uA ?_ | (refine uK ?_ ?_; focus first | omega | trivial | (intros; simp_all <;> omega)) | simp (disch := omega) only [go_sem, Nat.reduceBEq, Nat.reduceAdd, Nat.reduceLeDiff, Int.reduceToNat, Int.reducePow, ww])
   exact S.done (j3.out rfl (Imp.refl rfl) rfl)
  ·have hc3 : e = 0 := by simpa using hc2
   (repeat first | refine uA ?_ | (refine uK ?_ ?_; focus first | omega | trivial | (intros; simp_all <;> omega)) | simp (disch := omega) only [go_sem, Nat.reduceBEq, Nat.reduceAdd, Nat.reduceLeDiff, Int.reduceToNat, Int.reducePow, ww])
   refine S.next (i + 1) ⟨by omega, by rw [hg, hnx hc3]⟩ (by omega) (by (repeat first | refine uA ?_ | (refine ⟨?_, ?_⟩; focus first | rfl | trivial | (simp [slot]; done)) | rfl | trivial | simp))
 ·rw [hg, a2b (by omega)]
  (repeat first | refine uA ?_ | (refine uK ?_ ?_; focus first | omega | trivial | (intros; simp_all <;> omega)) | simp (disch := omega) only [go_sem, Nat.reduceBEq, Nat.reduceAdd, Nat.reduceLeDiff, Int.reduceToNat, Int.reducePow, ww])
  exact S.done (j3.out rfl (Imp.refl rfl) rfl)
end Go.Proofs.YtpjjiegfigpgnaaGreatDoor
namespace Go.Proofs.YtpjjiegfigpgnaaGreatDoor.Eng
open Go Go.RowKit
def Res.bdr (n : Nat) : Res -> Bool
 | .box _ cs => C.bdL n cs
 | _ => true
theorem c0D {ν : List Value} {w : World} {O O' : Nat -> Prop} {x : Value} {r : Res} {n : Nat} (hs : r.bdr n = true) (hO : ∀ b, O' b -> O b) (h : L6 ν w O x r) : L6 (ν.take n) w O' x r := by
 cases r with
 | gone => exact h
 | box t cs =>
  obtain ⟨b, vs, h1, h2, h3, h4⟩ := h
  exact ⟨b, vs, h1, j5.keep (Keeps.sub hO) (j5.takeν n hs h2), h3, h4⟩
 | row e sz es => exact a4L hO h
 | map s es => exact h
theorem c0R {ν ν' : List Value} {w : World} {O O' : Nat -> Prop} {x : Value} {r : Res} (hn : W9 [] ν ν') (hO : ∀ b, O' b -> O b) (h : L6 ν w O x r) : L6 ν' w O' x r := by
 cases r with
 | gone => exact h
 | box t cs =>
  obtain ⟨b, vs, h1, h2, h3, h4⟩ := h
  exact ⟨b, vs, h1, j5.keep (Keeps.sub hO) (j5.nu hn (fun k hk => by cases hk) h2), h3, h4⟩
 | row e sz es => exact a4L hO h
 | map s es => exact h
theorem W9.take (ν : List Value) (n : Nat) : W9 [] (ν.take n) ν := fun _ _ _ h => a0u h
theorem c0M {ν ν' : List Value} (h : W9 [] ν ν') (hl : ν'.length = ν.length) : ν' = ν := by
 apply List.ext_getElem?
 intro i
 rcases c1Q i ν.length with h1 | h1
 ·have := h i _ (fun hk => by cases hk) (c1n h1)
  rw [this, c1n h1]
 ·rw [c1R h1, c1R (by omega)]
theorem a6H {rs ext : List Res} {ν : List Value} (hl : ν.length = (rs ++ ext).length) (b : Nat) : owned (rs ++ ext) ν b <-> owned rs (ν.take rs.length) b \/ ∃ k r x, ext[k]? = some r /\ ν[rs.length + k]? = some x /\ fp r x b := by
 constructor
 ·rintro ⟨k, r, x, h1, h2, h3⟩
  rcases c1Q k rs.length with h | h
  ·rw [c1D h] at h1
   exact .inl ⟨k, r, x, h1, M6 h h2, h3⟩
  ·rw [c1G h] at h1
   exact .inr ⟨k - rs.length, r, x, h1, by rw [show rs.length + (k - rs.length) = k by omega]; exact h2, h3⟩
 ·rintro (⟨k, r, x, h1, h2, h3⟩ | ⟨k, r, x, h1, h2, h3⟩)
  ·have h := (c1r.1 h1).1
   exact ⟨k, r, x, by rw [c1D h]; exact h1, a0u h2, h3⟩
  ·exact ⟨rs.length + k, r, x, by rw [c1G (by omega), show rs.length + k - rs.length = k by omega]; exact h1, h2, h3⟩
theorem l6.ext {E : Ctx} {rs rs' : List Res} (ex : List Res) {f : Nat} {args : List C} {s : C} (h : l6 E rs f args s rs' []) (hl : rs'.length = rs.length) (hb : rs.all (Res.bdr rs.length) = true) (ha : C.bdL rs.length args = true) : l6 E (rs ++ ex) f args s (rs' ++ ex) [] := by
  intro av ν w vs hR hav hF hD
  have hlen := hR.len
  have hl1 : (ν.take rs.length).length = rs.length := by rw [c1y, hlen, c1C]; omega
  generalize hν1 : ν.take rs.length = ν1 at hl1
  have hown := fun b => a6H hlen b
  rw [hν1] at hown
  have hx : ∀ b k r x, ex[k]? = some r -> ν[rs.length + k]? = some x -> fp r x b -> ¬ owned rs ν1 b := by
    rintro b k r x h1 h2 h3 ⟨l, q, y, g1, g2, g3⟩
    have hlt := (c1r.1 g1).1
    rw [<- hν1] at g2
    exact hR.dis l (rs.length + k) q r y x b (by omega) (by rw [c1D hlt]; exact g1) (by rw [c1G (by omega), show rs.length + k - rs.length = k by omega]; exact h1) (a0u g2) h2 g3 h3
  let av' : Nat -> Prop := fun b => OO av (rs ++ ex) ν b /\ ¬ owned rs ν1 b
  have hOO : ∀ b, OO av' rs ν1 b -> OO av (rs ++ ex) ν b := fun b hb => by
    rcases hb with hb | hb
    · exact hb.1
    · exact .inr ((hown b).2 (.inl hb))
  have hRG : RG av' E.own0 E.w0.heap.size ν1 rs w := by
    refine ⟨hl1, fun k r hk => ?_, fun l m q q' y y' b hne h1 h2 h3 h4 => ?_, fun b hb => ?_, fun b hb => ?_, hR.n0⟩
    · have hlt := (c1r.1 hk).1
      obtain ⟨x, hx, hok⟩ := hR.res k r (by rw [c1D hlt]; exact hk)
      refine ⟨x, by rw [<- hν1]; exact M6 hlt hx, ?_⟩
      rw [<- hν1]
      rw [List.all_eq_true] at hb
      exact c0D (hb r (c1q hk)) (by rw [hν1]; exact hOO) hok
    · have g1 := (c1r.1 h1).1
      have g2 := (c1r.1 h2).1
      rw [<- hν1] at h3 h4
      exact hR.dis l m q q' y y' b hne (by rw [c1D g1]; exact h1) (by rw [c1D g2]; exact h2) (a0u h3) (a0u h4)
    · obtain ⟨g1, g2, g3⟩ := hR.low b ((hown b).2 (.inl hb))
      exact ⟨g1, fun h => h.2 hb, g3⟩
    · rcases hb.1 with h1 | h1
      · exact hR.av b h1
      · exact (hR.low b h1).1
  have hnav : ∀ b, av b -> ¬ owned rs ν1 b := fun b hb ho => (hR.low b ((hown b).2 (.inl ho))).2.1 hb
  have hD' : j5 ν1 w (OO av' rs ν1) args vs := by
    have := j5.keep (Keeps.sub hOO) (j5.takeν rs.length ha hD)
    rwa [hν1] at this
  refine (h av' ν1 w vs hRG (fun b hb => ⟨.inl (hav b hb), hnav b (hav b hb)⟩) hF hD').mono ?_
  rintro e w' ⟨y, ν', rfl, h1, h2, h3⟩
  have hν' : ν' = ν1 := c0M h2.nu (by rw [h1.len, hl, hl1])
  subst hν'
  have hlen' : ν.length = (rs' ++ ex).length := by rw [hlen, c1C, c1C, hl]
  have hν1' : ν.take rs'.length = ν' := by rw [hl]; exact hν1
  have hown' := fun b => a6H hlen' b
  rw [hν1', hl] at hown'
  have hnu : W9 [] ν' ν := by rw [<- hν1]; exact W9.take ν _
  have hxo : ∀ b k r x, ex[k]? = some r -> ν[rs.length + k]? = some x -> fp r x b -> owned (rs ++ ex) ν b := fun b k r x g1 g2 g3 => (hown b).2 (.inr ⟨k, r, x, g1, g2, g3⟩)
  have hOO' : ∀ b, OO av (rs' ++ ex) ν b -> OO av' rs' ν' b := fun b hb => by
    rcases hb with hb | hb
    · exact .inl ⟨.inl hb, hnav b hb⟩
    · rcases (hown' b).1 hb with hb | ⟨k, r, x, g1, g2, g3⟩
      · exact .inr hb
      · exact .inl ⟨.inr (hxo b k r x g1 g2 g3), hx b k r x g1 g2 g3⟩
  have hM : Mv (rs ++ ex) ν w [] (rs' ++ ex) ν w' := by
    refine ⟨h2.os, h2.tape, h2.output, h2.size, fun b hb hn => h2.block b hb fun ho => hn ((hown b).2 (.inl ho)), fun b hb => ?_, fun _ _ _ h => h⟩
    rcases (hown' b).1 hb with hb | ⟨k, r, x, g1, g2, g3⟩
    · rcases h2.own b hb with g | g
      · exact .inl ((hown b).2 (.inl g))
      · exact .inr g
    · exact .inl (hxo b k r x g1 g2 g3)
  refine ⟨y, ν, rfl, ⟨hlen', fun k r hk => ?_, fun l m q q' z z' b hne g1 g2 g3 g4 g5 => ?_, fun b hb => ?_, fun b hb => c1L (hR.av b hb) h2.size, c1s hR.n0 h2.size⟩, hM, Den.keep (Keeps.sub hOO') (Den.nu hnu (fun k hk => by cases hk) h3)⟩
  · rcases c1Q k rs'.length with hlt | hge
    · rw [c1D hlt] at hk
      obtain ⟨x, hx', hok⟩ := h1.res k r hk
      exact ⟨x, hnu k x (fun hk => by cases hk) hx', c0R hnu hOO' hok⟩
    · have hk' : (rs ++ ex)[k]? = some r := by
        rw [c1G hge] at hk
        rw [c1G (by omega), <- hl]; exact hk
      obtain ⟨x, hx', hok⟩ := hR.res k r hk'
      refine ⟨x, hx', ?_⟩
      have := hok.mv (O' := OO av (rs' ++ ex) ν) (hM.keeps (av := av)) hM.nu (fun b hf => h2.block b (hR.lt hk' hx' hf) (by
        rw [c1G hge] at hk
        exact hx b (k - rs'.length) r x hk (by rw [show rs.length + (k - rs'.length) = k by omega]; exact hx') hf))
      rwa [a2e] at this
  · rcases c1Q l rs'.length with hl1' | hl1' <;> rcases c1Q m rs'.length with hm1 | hm1
    · rw [c1D hl1'] at g1
      rw [c1D hm1] at g2
      have e1 : ν'[l]? = some z := by rw [<- hν1']; exact M6 hl1' g3
      have e2 : ν'[m]? = some z' := by rw [<- hν1']; exact M6 hm1 g4
      exact h1.dis l m q q' z z' b hne g1 g2 e1 e2 g5
    · rw [c1D hl1'] at g1
      rw [c1G hm1] at g2
      have e1 : ν'[l]? = some z := by rw [<- hν1']; exact M6 hl1' g3
      have g4' : ν[rs.length + (m - rs'.length)]? = some z' := by rw [show rs.length + (m - rs'.length) = m by omega]; exact g4
      intro hf
      rcases h2.own b ⟨l, q, z, g1, e1, g5⟩ with ho | ho
      · exact hx b _ q' z' g2 g4' hf ho
      · have := (hR.low b (hxo b _ q' z' g2 g4' hf)).1; omega
    · rw [c1G hl1'] at g1
      rw [c1D hm1] at g2
      have e2 : ν'[m]? = some z' := by rw [<- hν1']; exact M6 hm1 g4
      have g3' : ν[rs.length + (l - rs'.length)]? = some z := by rw [show rs.length + (l - rs'.length) = l by omega]; exact g3
      intro hf
      rcases h2.own b ⟨m, q', z', g2, e2, hf⟩ with ho | ho
      · exact hx b _ q z g1 g3' g5 ho
      · have := (hR.low b (hxo b _ q z g1 g3' g5)).1; omega
    · rw [c1G hl1'] at g1
      rw [c1G hm1] at g2
      exact hR.dis l m q q' z z' b hne (by rw [c1G (by omega), <- hl]; exact g1) (by rw [c1G (by omega), <- hl]; exact g2) g3 g4 g5
  · rcases (hown' b).1 hb with hb | ⟨k, r, x, g1, g2, g3⟩
    · obtain ⟨a1, a2, a3⟩ := h1.low b hb
      exact ⟨a1, fun ha => a2 ⟨.inl ha, hnav b ha⟩, a3⟩
    · obtain ⟨a1, a2, a3⟩ := hR.low b (hxo b k r x g1 g2 g3)
      exact ⟨c1L a1 h2.size, a2, a3⟩
end Go.Proofs.YtpjjiegfigpgnaaGreatDoor.Eng
namespace Go.Proofs.YtpjjiegfigpgnaaGreatDoor
open Go Go.RowKit Eng
set_option maxRecDepth 10000
set_option maxHeartbeats 8000000
def rsW (w : Wk) (n : Nms) : List Res := [.box 30 w.enc, .map true (nmE n), .box 105 [.mp 1]]
theorem b7H {E : Ctx} (hP : E.P = Tryz.prog) (ht0 : Tz E) (w : Wk) (n : Nms) (a : Am) (hb : Ab 1073741824 a) :
  l6 E (rsW w n) 48 [a.c, .bp 2 0] (ints (a1N n a).1) (rsW w (a1N n a).2) [] := by
 obtain ⟨P, eff', N, w0, own0, av0, nu0, pk0⟩ := E
 simp only at hP
 subst hP
 refine l6.ofT (eff := eff) ht0 Tryz.func48 (by cbv) (by exact c1E rfl) fun w' own av ν hν ht => ?_
 have hν0 : ν.length <= 3 := by rw [hν]; exact c1w _
 have b0 := hb.1
 have h2 := b2M a hb
 have h1 := fun (E : Ctx) (hP : E.P = Tryz.prog) => b1d hP n a.name (by omega)
 unfold a1N
 generalize K6 n a.name = r at *
 obtain ⟨e1, m⟩ := r
 generalize J6 a = e2 at *
 obtain ⟨name, ⟨x, y, half, t⟩, links⟩ := a
 obtain ⟨arms, walls, parts, slots, gates, walk⟩ := w
 simp only [j6]
 simp only [Am.c, Am.enc, lks, sb, ints, rsW, Wk.enc, ams, wls, pts, sls, gts] at *
 (repeat first | refine uA ?_ | (refine uK ?_ ?_; focus first | omega | (intros; simp_all <;> omega)) | simp (disch := omega) only [go_sem, Nat.reduceBEq, Nat.reduceAdd, ww] | (refine uD h2 ?_ ?_ ?_; exact ht; exact rfl))
 refine S.cond rfl (fun hc => ?_) (fun hc => ?_)
 ·rw [if_pos (by simpa using hc)]
  (repeat first | refine uA ?_ | (refine uK ?_ ?_; focus first | omega | (intros; simp_all <;> omega)) | simp (disch := omega) only [go_sem, Nat.reduceBEq, Nat.reduceAdd, ww])
  (refine S.done ?_; simp only [q8, l9, go_sem, Nat.reduceBEq, Nat.reduceAdd, Nat.reduceLeDiff, Int.reduceToNat, Int.reducePow]; (repeat (refine ⟨?_, ?_⟩; focus first | trivial | omega | simp)); exact j3.O0 (Imp.refl rfl) (by (repeat first | refine uA ?_ | (refine ⟨?_, ?_⟩; focus first | rfl | simp [slot]) | rfl | simp)) (c1s hν0 (by simp)))
 rw [if_neg (by simpa using hc)]
 (repeat first | refine uA ?_ | (refine uK ?_ ?_; focus first | omega | (intros; simp_all <;> omega)) | simp (disch := omega) only [go_sem, Nat.reduceBEq, Nat.reduceAdd, ww] | refine l8.t (l6.lift (k := 1) rfl (h1 _ rfl) rfl rfl rfl) ?_)
 (refine S.done ?_; simp only [q8, l9, go_sem, Nat.reduceBEq, Nat.reduceAdd, Nat.reduceLeDiff, Int.reduceToNat, Int.reducePow]; (repeat (refine ⟨?_, ?_⟩; focus first | trivial | omega | simp)); exact j3.O0 (Imp.refl rfl) (by (repeat first | refine uA ?_ | (refine ⟨?_, ?_⟩; focus first | rfl | simp [slot]) | rfl | simp)) (c1s hν0 (by simp)))
theorem b6i {E : Ctx} (hP : E.P = Tryz.prog) (ht0 : Tz E) (w : Wk) (n : Nms) (l : List Am) (hn : l.length <= 1073741824) (hb : ∀ x ∈ l, Ab 1073741824 x) :
  l6 E (rsW w n) 51 [ams l, .clo 48 [.bp 2 0]] (ints (u6 a1N n l).1) (rsW w (u6 a1N n l).2) [] := by
 obtain ⟨P, eff', N, w0, own0, av0, nu0, pk0⟩ := E
 simp only at hP
 subst hP
 refine l6.ofT (eff := eff) ht0 Tryz.func51 (by cbv) (by exact c1E rfl) fun w' own av ν hν ht => ?_
 have hν0 : ν.length <= 3 := by rw [hν]; exact c1w _
 have hcal : callable Tryz.prog 48 = true := by kernel_rfl
 simp only [j6, ams, ints]
 simp only [rsW, Wk.enc, ams, wls, pts, sls, gts]
 (repeat first | refine uA ?_ | (refine uK ?_ ?_; focus first | omega | (intros; simp_all <;> omega)) | simp (disch := omega) only [go_sem, Nat.reduceBEq, Nat.reduceAdd, ww, c1o])
 refine S.loop (X := Nat × Nms) (fun x => ⟨[(1, .clo 48 [.bp 2 0]), (8, ams l), (9, ints l.length), (10, ints x.1)], rsW w x.2⟩) (fun x => x.1 <= l.length /\ u6 a1N n l = u6 a1N x.2 (l.drop x.1)) (fun x => l.length - x.1) (0, n) ⟨c1u _, rfl⟩ (by simp only [rsW, Wk.enc, ams, wls, pts, sls, gts]; exact (by (repeat first | refine uA ?_ | (refine ⟨?_, ?_⟩; focus first | rfl | simp [slot]) | rfl | simp | exact c1s hν0 (by simp)))) ?_
 rintro ⟨i, m⟩ ⟨hi, hg⟩
 simp only [ams, ints, rsW, Wk.enc, wls, pts, sls, gts] at hi hg ⊢
 (repeat first | refine uA ?_ | (refine uK ?_ ?_; focus first | omega | (intros; simp_all <;> omega)) | simp (disch := omega) only [go_sem, Nat.reduceBEq, Nat.reduceAdd, ww])
 (refine uJ rfl (fun hc => ?_) fun hc => ?_)
 ·have hi' : i < l.length := by omega
  have hgi := c1n hi'
  generalize l[i] = x at hgi
  have hst := a2m (f := a1N) (s := m) hgi
  have hnx := a2l (f := a1N) (s := m) hgi
  have hs := fun (E : Ctx) (hP : E.P = Tryz.prog) (ht : Tz E) => b7H hP ht w m x (hb x (c1q hgi))
  generalize a1N m x = r at *
  obtain ⟨e, m'⟩ := r
  simp only [Am.c, Am.enc, lks, sb, ints, rsW, Wk.enc, ams, wls, pts, sls, gts] at hs hst hnx
  (repeat first | refine uA ?_ | (refine uK ?_ ?_; focus first | omega | (intros; simp_all <;> omega)) | simp (disch := omega) only [go_sem, Nat.reduceBEq, Nat.reduceAdd, ww, hgi, c1p, c1o, Am.enc, lks, sb, hcal] | refine l8.t (l6.ext _ (hs _ rfl ht) rfl rfl rfl) ?_)
  refine S.cond rfl (fun hc2 => ?_) (fun hc2 => ?_)
  ·rw [hg, hst (by simpa using hc2)]
   (repeat first | refine uA ?_ | (refine uK ?_ ?_; focus first | omega | (intros; simp_all <;> omega)) | simp (disch := omega) only [go_sem, Nat.reduceBEq, Nat.reduceAdd, ww])
   (refine S.done ?_; simp only [q8, l9, go_sem, Nat.reduceBEq, Nat.reduceAdd, Nat.reduceLeDiff, Int.reduceToNat, Int.reducePow]; (repeat (refine ⟨?_, ?_⟩; focus first | trivial | omega | simp)); exact j3.O0 (Imp.refl rfl) (by (repeat first | refine uA ?_ | (refine ⟨?_, ?_⟩; focus first | rfl | simp [slot]) | rfl | simp)) (c1s hν0 (by simp)))
  ·have hc3 : e = 0 := by simpa using hc2
   (repeat first | refine uA ?_ | (refine uK ?_ ?_; focus first | omega | (intros; simp_all <;> omega)) | simp (disch := omega) only [go_sem, Nat.reduceBEq, Nat.reduceAdd, ww])
   refine S.next (x := (i, m)) (i + 1, m') ⟨by simp only; omega, by simp only; rw [hg, hnx hc3]⟩ (by simp only; omega) (by (repeat first | refine uA ?_ | (refine ⟨?_, ?_⟩; focus first | rfl | simp [slot]) | rfl | simp | exact c1s hν0 (by simp)))
 ·rw [hg, a2T (by omega)]
  (repeat first | refine uA ?_ | (refine uK ?_ ?_; focus first | omega | (intros; simp_all <;> omega)) | simp (disch := omega) only [go_sem, Nat.reduceBEq, Nat.reduceAdd, ww])
  (refine S.done ?_; simp only [q8, l9, go_sem, Nat.reduceBEq, Nat.reduceAdd, Nat.reduceLeDiff, Int.reduceToNat, Int.reducePow]; (repeat (refine ⟨?_, ?_⟩; focus first | trivial | omega | simp)); exact j3.O0 (Imp.refl rfl) (by (repeat first | refine uA ?_ | (refine ⟨?_, ?_⟩; focus first | rfl | simp [slot]) | rfl | simp)) (c1s hν0 (by simp)))
theorem a7P (w : Wk) (hb : Wb 1073741824 w) : FZ 11 [w.c] (ints (a0p w)) := by
 refine kW a9O a9E (by rfl) fun w' O hw => ?_
 have ht : Tz ⟨Tryz.prog, eff, a2t.ntmps, w', fun _ => False, O, [], []⟩ := tz hw
 obtain ⟨⟨n1, b1⟩, ⟨n2, b2⟩, ⟨n3, b3⟩, ⟨n4, b4⟩, ⟨n5, b5⟩, b6⟩ := hb
 have h1 := fun (E : Ctx) (hP : E.P = Tryz.prog) (ht : Tz E) => b6i hP ht w [] w.arms n1 b1
 have h2 := b4Z w.walls n2 b2
 unfold a0p a6h
 generalize u6 a1N [] w.arms = r1 at *
 obtain ⟨e1, m1⟩ := r1
 have h3 := fun (E : Ctx) (hP : E.P = Tryz.prog) (ht : Tz E) => b4z hP ht m1 w.parts n3 b3
 simp only at h3 ⊢
 generalize u6 a0E m1 w.parts = r3 at *
 obtain ⟨e3, m3⟩ := r3
 have h4 := fun (E : Ctx) (hP : E.P = Tryz.prog) (ht : Tz E) => b4r hP ht m3 w.slots n4 b4
 simp only at h4 ⊢
 generalize u6 a0y m3 w.slots = r4 at *
 obtain ⟨e4, m4⟩ := r4
 have h5 := fun (E : Ctx) (hP : E.P = Tryz.prog) (ht : Tz E) => b4Q hP ht m4 w.gates n5 b5
 simp only at h5 ⊢
 generalize u6 a0C m4 w.gates = r5 at *
 obtain ⟨e5, m5⟩ := r5
 generalize G9 J8 w.walls = e2 at *
 simp only
 have h6 := a1b w.walk (b6.mono (by decide))
 have h7 := a3x w.walk (b6.mono (by decide))
 have h8 := Z4 w.walk (b6.mono (by decide))
 unfold b1c
 generalize decide w.walk.G5 = q1 at *
 generalize j4 w.walk = q2 at *
 generalize F3 (Nm.d9 w.walk) = s8 at *
 obtain ⟨arms, walls, parts, slots, gates, walk⟩ := w
 simp only [a2t, j6, TT, II, OA, OB, OC, MM, LL, VV, FF, MG, LG, VG, FG] at ht ⊢
 simp only [Wk.c, Wk.enc, rsW, ams, wls, pts, sls, gts, rc, sb, ints] at *
 (repeat first | refine uA ?_ | (refine uK ?_ ?_; focus first | omega | (intros; simp_all <;> omega)) | simp (disch := omega) only [go_sem, Nat.reduceBEq, Nat.reduceAdd, ww, c1o])
 refine S.cond rfl (fun hc => ?_) (fun hc => ?_)
 ·rw [if_pos (by simp only [c2d, c1v] at hc; omega)]
  (repeat first | refine uA ?_ | (refine uK ?_ ?_; focus first | omega | (intros; simp_all <;> omega)) | simp (disch := omega) only [go_sem, Nat.reduceBEq, Nat.reduceAdd, ww])
  exact S.done (j3.out rfl (Imp.refl rfl) rfl)
 rw [if_neg (by simp only [c1J, c1A] at hc; omega)]
 (repeat first | refine uA ?_ | (refine uK ?_ ?_; focus first | omega | (intros; simp_all <;> omega)) | simp (disch := omega) only [go_sem, Nat.reduceBEq, Nat.reduceAdd, ww, c1o])
 refine S.cond rfl (fun hc => ?_) (fun hc => ?_)
 ·rw [if_pos (by simp only [c1v] at hc; omega)]
  (repeat first | refine uA ?_ | (refine uK ?_ ?_; focus first | omega | (intros; simp_all <;> omega)) | simp (disch := omega) only [go_sem, Nat.reduceBEq, Nat.reduceAdd, ww])
  exact S.done (j3.out rfl (Imp.refl rfl) rfl)
 rw [if_neg (by simp only [c1A] at hc; omega)]
 (repeat first | refine uI ?_ | (refine uK ?_ ?_; focus first | omega | (intros; simp_all <;> omega)) | simp (disch := omega) only [go_sem, Nat.reduceBEq, Nat.reduceAdd, ww])
 refine S.F4 [.box 30 [.sl 12 (arms.map Am.enc), .sl 1 (walls.map fun s => [vts s]), .sl 12 (parts.map Pt.enc), .sl 14 (slots.map Sl.enc), .sl 13 (gates.map Gt.enc), .v (.bool walk.neg), .v (.string (bs walk.num)), .v (.string (bs walk.den))], .gone, .box 105 [.mp 1]] (by simp [Eng.F5, Eng.P8]) ?_
 (repeat first | refine uA ?_ | (refine uK ?_ ?_; focus first | omega | (intros; simp_all <;> omega)) | simp (disch := omega) only [go_sem, Nat.reduceBEq, Nat.reduceAdd, ww, c1o, F5] | refine l8.t (h1 _ rfl ht) ?_ | refine l8.t (l6.lift (k := 1) rfl (h3 _ rfl ht) rfl rfl rfl) ?_ | refine l8.t (l6.lift (k := 1) rfl (h4 _ rfl ht) rfl rfl rfl) ?_ | refine l8.t (l6.lift (k := 1) rfl (h5 _ rfl ht) rfl rfl rfl) ?_ | (refine uD h2 ?_ ?_ ?_; exact tz hw; exact rfl))
 generalize hL : [e1, e2, e3, e4, e5] = L
 have hl5 : L.length = 5 := by rw [<- hL]; rfl
 have e63 : [[C.v (Value.int IntKind.i64 e1)], [C.v (Value.int IntKind.i64 e2)], [C.v (Value.int IntKind.i64 e3)], [C.v (Value.int IntKind.i64 e4)], [C.v (Value.int IntKind.i64 e5)]] = L.map fun e => [C.v (Value.int IntKind.i64 e)] := by rw [<- hL]; rfl
 simp only [e63]
 refine S.loop (X := Nat) (fun i => ⟨[(1, .bp 0 0), (63, .sl 1 (L.map fun e => [.v (.int .i64 e)])), (64, ints 5), (65, ints i)], [.box 30 [.sl 12 (arms.map Am.enc), .sl 1 (walls.map fun s => [vts s]), .sl 12 (parts.map Pt.enc), .sl 14 (slots.map Sl.enc), .sl 13 (gates.map Gt.enc), .v (.bool walk.neg), .v (.string (bs walk.num)), .v (.string (bs walk.den))]]⟩) (fun i => i <= 5 /\ G9 id L = G9 id (L.drop i)) (fun i => 5 - i) 0 ⟨c1u _, rfl⟩ (by (repeat first | refine uA ?_ | (refine ⟨?_, ?_⟩; focus first | rfl | simp [slot]) | rfl | simp)) ?_
 rintro i ⟨hi, hg⟩
 simp only [ints] at hi hg ⊢
 (repeat first | refine uA ?_ | (refine uK ?_ ?_; focus first | omega | (intros; simp_all <;> omega)) | simp (disch := omega) only [go_sem, Nat.reduceBEq, Nat.reduceAdd, ww])
 (refine uJ rfl (fun hc => ?_) fun hc => ?_)
 ·have hi' : i < L.length := by omega
  have hgi := c1n hi'
  generalize L[i] = x at hgi
  have hst := a1B (f := id) hgi
  have hnx := a1y (f := id) hgi
  simp only [id] at hst hnx
  (repeat first | refine uA ?_ | (refine uK ?_ ?_; focus first | omega | (intros; simp_all <;> omega)) | simp (disch := omega) only [go_sem, Nat.reduceBEq, Nat.reduceAdd, ww, hgi, c1p, c1o, hl5])
  refine S.cond rfl (fun hc2 => ?_) (fun hc2 => ?_)
  ·have h0 : x ≠ 0 := by simpa using hc2
   rw [hg, hst h0, if_pos h0]
   (repeat first | refine uA ?_ | (refine uK ?_ ?_; focus first | omega | (intros; simp_all <;> omega)) | simp (disch := omega) only [go_sem, Nat.reduceBEq, Nat.reduceAdd, ww])
   exact S.done (j3.out rfl (Imp.refl rfl) rfl)
  ·have hc3 : x = 0 := by simpa using hc2
   (repeat first | refine uA ?_ | (refine uK ?_ ?_; focus first | omega | (intros; simp_all <;> omega)) | simp (disch := omega) only [go_sem, Nat.reduceBEq, Nat.reduceAdd, ww])
   refine S.next (i + 1) ⟨by omega, by rw [hg]; exact hnx hc3⟩ (by omega) (by (repeat first | refine uA ?_ | (refine ⟨?_, ?_⟩; focus first | rfl | simp [slot]) | rfl | simp))
 ·rw [hg, a2b (by omega), if_neg (by decide)]
  (repeat first | refine uA ?_ | (refine uK ?_ ?_; focus first | omega | (intros; simp_all <;> omega)) | simp (disch := omega) only [go_sem, Nat.reduceBEq, Nat.reduceAdd, ww] | (refine uD h6 ?_ ?_ ?_; exact tz hw; exact rfl) | (refine uD h7 ?_ ?_ ?_; exact tz hw; exact rfl) | (refine uD h8 ?_ ?_ ?_; exact tz hw; exact rfl))
  refine S.cond rfl (fun hc => ?_) (fun hc => ?_)
  ·rw [if_neg (by simp only [c2d, Bool.not_eq_true', c1v] at hc; simp only [c1t, c1v]; rintro ⟨⟨g7, g8⟩, g9⟩; rcases hc with (hc | hc) | hc <;> first | (rw [hc] at g7; cases g7; done) | (rw [hc] at g8; cases g8; done) | omega)]
   (repeat first | refine uA ?_ | (refine uK ?_ ?_; focus first | omega | (intros; simp_all <;> omega)) | simp (disch := omega) only [go_sem, Nat.reduceBEq, Nat.reduceAdd, ww])
   exact S.done (j3.out rfl (Imp.refl rfl) rfl)
  ·rw [if_pos (by simp only [c1J, Bool.not_eq_false', c1A] at hc; simp only [c1t, c1v]; obtain ⟨⟨g7, g8⟩, g9⟩ := hc; exact ⟨⟨g7, g8⟩, by omega⟩)]
   (repeat first | refine uA ?_ | (refine uK ?_ ?_; focus first | omega | (intros; simp_all <;> omega)) | simp (disch := omega) only [go_sem, Nat.reduceBEq, Nat.reduceAdd, ww])
   exact S.done (j3.out rfl (Imp.refl rfl) rfl)
end Go.Proofs.YtpjjiegfigpgnaaGreatDoor
namespace Go.Proofs.YtpjjiegfigpgnaaGreatDoor.Eng
open Go Go.RowKit
mutual
def C.sh (n : Nat) : C -> C
 | .rv k => .rv (n + k)
 | .agg cs => .agg (C.shL n cs)
 | .tup cs => .tup (C.shL n cs)
 | c => c
def C.shL (n : Nat) : List C -> List C
 | [] => []
 | c :: cs => C.sh n c :: C.shL n cs
end
mutual
def C.okS : C -> Bool
 | .rv _ => true
 | .agg cs => C.b2k cs
 | .tup cs => C.b2k cs
 | c => c.cl
def C.b2k : List C -> Bool
 | [] => true
 | c :: cs => C.okS c && C.b2k cs
end
section
variable {ν ν' : List Value} {w : World} {O O' : Nat -> Prop}
mutual
theorem b5U (hO : ∀ b, O' b -> O b) : ∀ {c : C} {y : Value}, c.okS = true -> Den ν' w O c y -> Den (ν ++ ν') w O' (C.sh ν.length c) y
 | .rv k, y, _, h => by
  simp only [C.sh, Den] at h ⊢
  exact ⟨by rw [c1G (by omega), show ν.length + k - ν.length = k by omega]; exact h.1, h.2⟩
 | .agg cs, y, hc, h => by
  simp only [C.sh, Den, C.okS] at h hc ⊢
  obtain ⟨vs, h1, h2⟩ := h
  exact ⟨vs, a9s hO hc h1, h2⟩
 | .tup cs, y, hc, h => by
  simp only [C.sh, Den, C.okS] at h hc ⊢
  obtain ⟨vs, h1, h2⟩ := h
  exact ⟨vs, a9s hO hc h1, h2⟩
 | .v x, y, hc, h => by simpa only [C.sh, Den] using h
 | .sl sz es, y, hc, h => by simp only [C.sh]; exact (Fz.keep (Keeps.sub hO) (h.fz hc)).den _
 | .nl, y, hc, h => by simpa only [C.sh, Den] using h
 | .ep cs, y, hc, h => by simp only [C.sh]; exact (Fz.keep (Keeps.sub hO) (h.fz hc)).den _
 | .clo f cs, y, hc, h => by simp only [C.sh]; exact (Fz.keep (Keeps.sub hO) (h.fz hc)).den _
 | .bnd f x, y, hc, h => by simp only [C.sh]; exact (Fz.keep (Keeps.sub hO) (h.fz hc)).den _
 | .any S, y, hc, h => by simpa only [C.sh, Den] using h
 | .bp _ _, y, hc, h => by simp only [C.okS, C.cl] at hc; cases hc
 | .rp _ _ _ _, y, hc, h => by simp only [C.okS, C.cl] at hc; cases hc
 | .mp _, y, hc, h => by simp only [C.okS, C.cl] at hc; cases hc
 | .wv _ _ _ _, y, hc, h => by simp only [C.okS, C.cl] at hc; cases hc
 | .g _ _, y, hc, h => by simp only [C.okS, C.cl] at hc; cases hc
 | .junk, y, hc, h => by simp only [C.okS, C.cl] at hc; cases hc
theorem a9s (hO : ∀ b, O' b -> O b) : ∀ {cs : List C} {vs : List Value}, C.b2k cs = true -> j5 ν' w O cs vs -> j5 (ν ++ ν') w O' (C.shL ν.length cs) vs
 | [], vs, _, h => by simpa only [C.shL, j5] using h
 | c :: cs, vs, hc, h => by
  simp only [C.shL, j5, C.b2k, c1t] at h hc ⊢
  obtain ⟨y, ys, e, h1, h2⟩ := h
  exact ⟨y, ys, e, b5U hO hc.1 h1, a9s hO hc.2 h2⟩
end
end
def Res.b8r : Res -> Bool
 | .gone => true
 | r => r.shut
theorem b7l {ν ν' : List Value} {w : World} {O O' : Nat -> Prop} {x : Value} {r : Res} (hs : r.b8r = true) (hO : ∀ b, O' b -> O b) (h : L6 ν w O x r) : L6 ν' w O' x r := by
 cases r with
 | gone => trivial
 | box t cs => exact a5f hs hO h
 | row e sz es => exact a5f rfl hO h
 | map s es => exact a5f rfl hO h
theorem l6.pre {E : Ctx} {rs rs' : List Res} {f : Nat} {args : List C} {s : C} (h : l6 E [] f args s rs' []) (hr : rs'.all Res.b8r = true) (hs : s.okS = true) (ha : C.clL args = true) : l6 E rs f args (C.sh rs.length s) (rs ++ rs') [] := by
  intro av ν w vs hR hav hF hD
  rw [List.all_eq_true] at hr
  let av' : Nat -> Prop := OO av rs ν
  have hlt : ∀ b, av' b -> b < w.heap.size := fun b hb => by
    rcases hb with hb | hb
    · exact hR.av b hb
    · exact (hR.low b hb).1
  have ho0 : ∀ b, ¬ owned [] [] b := fun b ⟨k, r, x, hk, _⟩ => by simp at hk
  have hRG : RG av' E.own0 E.w0.heap.size [] [] w := ⟨rfl, fun k r hk => by simp at hk, fun k l r r' x x' b _ hk => by simp at hk, fun b hb => (ho0 b hb).elim, hlt, hR.n0⟩
  have hOO : ∀ b, OO av' [] [] b -> OO av rs ν b := fun b hb => hb.elim id fun h => (ho0 b h).elim
  refine (h av' [] w vs hRG (fun b hb => .inl (hav b hb)) hF ((FzL.keep (Keeps.sub hOO) (hD.fz ha)).den _)).mono ?_
  rintro e w' ⟨y, ν', rfl, h1, h2, h3⟩
  have hlen : (ν ++ ν').length = (rs ++ rs').length := by rw [c1C, c1C, hR.len, h1.len]
  have htk : (ν ++ ν').take rs.length = ν := by rw [<- hR.len]; simp
  have hown := fun b => a6H hlen b
  rw [htk] at hown
  have hnew : ∀ b, (∃ k r x, rs'[k]? = some r /\ (ν ++ ν')[rs.length + k]? = some x /\ fp r x b) -> owned rs' ν' b := by
    rintro b ⟨k, r, x, g1, g2, g3⟩
    rw [<- hR.len, c1G (by omega), show ν.length + k - ν.length = k by omega] at g2
    exact ⟨k, r, x, g1, g2, g3⟩
  have hge : ∀ b, owned rs' ν' b -> w.heap.size <= b := fun b hb => (h2.own b hb).elim (fun h => (ho0 b h).elim) id
  have hnu : W9 [] ν (ν ++ ν') := fun k x _ hx => by rw [c1D (c1r.1 hx).1]; exact hx
  have hM : Mv rs ν w [] (rs ++ rs') (ν ++ ν') w' := by
    refine ⟨h2.os, h2.tape, h2.output, h2.size, fun b hb _ => h2.block b hb (ho0 b), fun b hb => ?_, hnu⟩
    rcases (hown b).1 hb with hb | hb
    · exact .inl hb
    · exact .inr (hge b (hnew b hb))
  have hOO' : ∀ b, OO av (rs ++ rs') (ν ++ ν') b -> OO av' rs' ν' b := fun b hb => by
    rcases hb with hb | hb
    · exact .inl (.inl hb)
    · rcases (hown b).1 hb with hb | hb
      · exact .inl (.inr hb)
      · exact .inr (hnew b hb)
  refine ⟨y, ν ++ ν', rfl, ⟨hlen, fun k r hk => ?_, fun l m q q' z z' b hne g1 g2 g3 g4 g5 => ?_, fun b hb => ?_, fun b hb => c1L (hR.av b hb) h2.size, c1s hR.n0 h2.size⟩, hM, by rw [<- hR.len]; exact b5U hOO' hs h3⟩
  · rcases c1Q k rs.length with hlt' | hge'
    · rw [c1D hlt'] at hk
      obtain ⟨x, hx, hok⟩ := hR.res k r hk
      have := hok.mv (hM.keeps (av := av)) hM.nu (fun b hf => h2.block b (hR.lt hk hx hf) (ho0 b))
      rw [a2e] at this
      exact ⟨x, hnu k x (fun h => by cases h) hx, this⟩
    · rw [c1G hge'] at hk
      obtain ⟨x, hx, hok⟩ := h1.res _ r hk
      refine ⟨x, by rw [c1G (by rw [hR.len]; exact hge'), hR.len]; exact hx, b7l (hr r (c1q hk)) hOO' hok⟩
  · have old : ∀ {l q z}, l < rs.length -> (rs ++ rs')[l]? = some q -> (ν ++ ν')[l]? = some z -> rs[l]? = some q /\ ν[l]? = some z := fun hl a1 a2 => by
      rw [c1D hl] at a1
      rw [c1D (by rw [hR.len]; exact hl)] at a2
      exact ⟨a1, a2⟩
    have new : ∀ {l q z}, rs.length <= l -> (rs ++ rs')[l]? = some q -> (ν ++ ν')[l]? = some z -> rs'[l - rs.length]? = some q /\ ν'[l - rs.length]? = some z := fun hl a1 a2 => by
      rw [c1G hl] at a1
      rw [c1G (by rw [hR.len]; exact hl), hR.len] at a2
      exact ⟨a1, a2⟩
    rcases c1Q l rs.length with hl1 | hl1 <;> rcases c1Q m rs.length with hm1 | hm1
    · obtain ⟨a1, a2⟩ := old hl1 g1 g3
      obtain ⟨a3, a4⟩ := old hm1 g2 g4
      exact hR.dis l m q q' z z' b hne a1 a3 a2 a4 g5
    · obtain ⟨a1, a2⟩ := old hl1 g1 g3
      obtain ⟨a3, a4⟩ := new hm1 g2 g4
      intro hf
      have := hR.lt a1 a2 g5
      have := hge b ⟨_, _, _, a3, a4, hf⟩
      omega
    · obtain ⟨a1, a2⟩ := new hl1 g1 g3
      obtain ⟨a3, a4⟩ := old hm1 g2 g4
      intro hf
      have := hR.lt a3 a4 hf
      have := hge b ⟨_, _, _, a1, a2, g5⟩
      omega
    · obtain ⟨a1, a2⟩ := new hl1 g1 g3
      obtain ⟨a3, a4⟩ := new hm1 g2 g4
      exact h1.dis _ _ q q' z z' b (by omega) a1 a3 a2 a4 g5
  · rcases (hown b).1 hb with hb | hb
    · obtain ⟨a1, a2, a3⟩ := hR.low b hb
      exact ⟨c1L a1 h2.size, a2, a3⟩
    · obtain ⟨a1, a2, a3⟩ := h1.low b (hnew b hb)
      exact ⟨a1, fun ha => a2 (.inl ha), a3⟩
end Go.Proofs.YtpjjiegfigpgnaaGreatDoor.Eng
namespace Go.Proofs.YtpjjiegfigpgnaaGreatDoor
open Go Go.RowKit Eng
set_option maxRecDepth 100000
set_option maxHeartbeats 8000000
theorem b7w (es : List (List C)) (hn : es.length <= 1073741824) : FNew Tryz.prog 65 [.sl 6 es] 32 6 es := by
 refine FNew.of (eff := eff) Tryz.func65 (by cbv) (by exact c1E rfl) fun w O => ?_
 simp only [j6]
 (repeat first | refine uA ?_ | (refine uK ?_ ?_; focus first | omega | (intros; simp_all <;> omega)) | simp (disch := omega) only [go_sem, Nat.reduceBEq, Nat.reduceAdd, ww])
 refine S.split 4 (Sx := fun y => ∃ b, y = .bool b /\ (es ≠ [] -> b = false)) rfl fun y hy => ?_
 obtain ⟨b, rfl, hb⟩ := hy
 refine S.cond rfl (fun hc => ?_) (fun hc => ?_)
 ·have he : es = [] := Classical.byContradiction fun h => by rw [hb h] at hc; cases hc
  subst he
  (repeat first | refine uA ?_ | (refine uK ?_ ?_; focus first | omega | (intros; simp_all <;> omega)) | simp (disch := omega) only [go_sem, Nat.reduceBEq, Nat.reduceAdd, ww])
  refine S.weaken (Ent.pack 2 32 6 rfl) ?_
  exact S.done (j3.new rfl rfl rfl)
 ·(repeat first | refine uA ?_ | (refine uK ?_ ?_; focus first | omega | (intros; simp_all <;> omega)) | simp (disch := omega) only [go_sem, Nat.reduceBEq, Nat.reduceAdd, ww])
  exact S.done (j3.new rfl rfl rfl)
theorem b6P (es : List (List C)) (hn : es.length <= 1073741824) : FNew Tryz.prog 159 [.sl 1 es] 4 1 es := by
 refine FNew.of (eff := eff) Tryz.func159 (by cbv) (by exact c1E rfl) fun w O => ?_
 simp only [j6]
 (repeat first | refine uA ?_ | (refine uK ?_ ?_; focus first | omega | (intros; simp_all <;> omega)) | simp (disch := omega) only [go_sem, Nat.reduceBEq, Nat.reduceAdd, ww])
 refine S.split 4 (Sx := fun y => ∃ b, y = .bool b /\ (es ≠ [] -> b = false)) rfl fun y hy => ?_
 obtain ⟨b, rfl, hb⟩ := hy
 refine S.cond rfl (fun hc => ?_) (fun hc => ?_)
 ·have he : es = [] := Classical.byContradiction fun h => by rw [hb h] at hc; cases hc
  subst he
  (repeat first | refine uA ?_ | (refine uK ?_ ?_; focus first | omega | (intros; simp_all <;> omega)) | simp (disch := omega) only [go_sem, Nat.reduceBEq, Nat.reduceAdd, ww])
  refine S.weaken (Ent.pack 2 4 1 rfl) ?_
  exact S.done (j3.new rfl rfl rfl)
 ·(repeat first | refine uA ?_ | (refine uK ?_ ?_; focus first | omega | (intros; simp_all <;> omega)) | simp (disch := omega) only [go_sem, Nat.reduceBEq, Nat.reduceAdd, ww])
  exact S.done (j3.new rfl rfl rfl)
theorem a3V (es : List (List C)) (hn : es.length <= 1073741824) : FNew Tryz.prog 160 [.sl 3 es] 28 3 es := by
 refine FNew.of (eff := eff) Tryz.func160 (by cbv) (by exact c1E rfl) fun w O => ?_
 simp only [j6]
 (repeat first | refine uA ?_ | (refine uK ?_ ?_; focus first | omega | (intros; simp_all <;> omega)) | simp (disch := omega) only [go_sem, Nat.reduceBEq, Nat.reduceAdd, ww])
 refine S.split 4 (Sx := fun y => ∃ b, y = .bool b /\ (es ≠ [] -> b = false)) rfl fun y hy => ?_
 obtain ⟨b, rfl, hb⟩ := hy
 refine S.cond rfl (fun hc => ?_) (fun hc => ?_)
 ·have he : es = [] := Classical.byContradiction fun h => by rw [hb h] at hc; cases hc
  subst he
  (repeat first | refine uA ?_ | (refine uK ?_ ?_; focus first | omega | (intros; simp_all <;> omega)) | simp (disch := omega) only [go_sem, Nat.reduceBEq, Nat.reduceAdd, ww])
  refine S.weaken (Ent.pack 2 28 3 rfl) ?_
  exact S.done (j3.new rfl rfl rfl)
 ·(repeat first | refine uA ?_ | (refine uK ?_ ?_; focus first | omega | (intros; simp_all <;> omega)) | simp (disch := omega) only [go_sem, Nat.reduceBEq, Nat.reduceAdd, ww])
  exact S.done (j3.new rfl rfl rfl)
theorem b5l (es : List (List C)) (hn : es.length <= 1073741824) : FNew Tryz.prog 158 [.sl 10 es] 36 10 es := by
 refine FNew.of (eff := eff) Tryz.func158 (by cbv) (by exact c1E rfl) fun w O => ?_
 simp only [j6]
 (repeat first | refine uA ?_ | (refine uK ?_ ?_; focus first | omega | (intros; simp_all <;> omega)) | simp (disch := omega) only [go_sem, Nat.reduceBEq, Nat.reduceAdd, ww])
 refine S.split 4 (Sx := fun y => ∃ b, y = .bool b /\ (es ≠ [] -> b = false)) rfl fun y hy => ?_
 obtain ⟨b, rfl, hb⟩ := hy
 refine S.cond rfl (fun hc => ?_) (fun hc => ?_)
 ·have he : es = [] := Classical.byContradiction fun h => by rw [hb h] at hc; cases hc
  subst he
  (repeat first | refine uA ?_ | (refine uK ?_ ?_; focus first | omega | (intros; simp_all <;> omega)) | simp (disch := omega) only [go_sem, Nat.reduceBEq, Nat.reduceAdd, ww])
  refine S.weaken (Ent.pack 2 36 10 rfl) ?_
  exact S.done (j3.new rfl rfl rfl)
 ·(repeat first | refine uA ?_ | (refine uK ?_ ?_; focus first | omega | (intros; simp_all <;> omega)) | simp (disch := omega) only [go_sem, Nat.reduceBEq, Nat.reduceAdd, ww])
  exact S.done (j3.new rfl rfl rfl)
theorem b4c (q : Rat) : Nm.ofQ (G7 q) = ⟨false, Nm.enc q.num.natAbs, Nm.enc q.den⟩ := by
 unfold G7
 by_cases h : q.num < 0
 ·rw [if_pos h, a8Z]
  simp [h]
 ·rw [if_neg h]
  unfold Nm.ofQ
  rw [decide_eq_false h]
theorem a5z (a : Nm.Rt) (ha : Rb 17179869184 a) : FZ 30 [rc a] (rq (G7 (Nm.d9 a))) := by
 unfold rq
 rw [b4c]
 exact c0i a ha
theorem a3W {k : Nat} {p : Rat} (h : Rb k (Nm.ofQ p)) : Rb k (Nm.ofQ (G7 p)) := by rw [b4c]; exact h
theorem b7W (a : Nm.Rt) (ha : Rb 68719476736 a) : FZ 175 [rc a] (.v (.bool (!I7 a))) := by
 refine kW Tryz.func175 (by cbv) (by rfl) fun w O hw => ?_
 have h := a1b a ha
 unfold I7
 generalize decide a.G5 = q at *
 simp only [j6]
 simp only [rc, sb] at *
 (repeat first | refine uA ?_ | (refine uK ?_ ?_; focus first | omega | (intros; simp_all <;> omega)) | simp (disch := omega) only [go_sem, Nat.reduceBEq, Nat.reduceAdd, ww] | (refine uD h ?_ ?_ ?_; exact tz hw; exact rfl))
 exact S.done (j3.out rfl (Imp.refl rfl) rfl)
theorem a6Z (l : List Nm.Rt) (hl : Rbs 68719476736 l) : FZ 116 [rts l] (.v (.bool (l.all I7))) := by
 refine kW Tryz.func116 (by cbv) (by rfl) fun w O hw => ?_
 have h := b7a 175 (by kernel_rfl) (fun a => !I7 a) l (by have := hl.1; omega) (fun a ha => b7W a (hl.2 a ha))
 have e : l.all I7 = !l.any fun a => !I7 a := by rw [List.not_any_eq_all_not]; simp
 rw [e]
 generalize (l.any fun a => !I7 a) = q at *
 simp only [j6]
 simp only [rts] at *
 (repeat first | refine uA ?_ | (refine uK ?_ ?_; focus first | omega | (intros; simp_all <;> omega)) | simp (disch := omega) only [go_sem, Nat.reduceBEq, Nat.reduceAdd, ww] | (refine uD h ?_ ?_ ?_; exact tz hw; exact rfl))
 exact S.done (j3.out rfl (Imp.refl rfl) rfl)
theorem b7V (f : Fr) (hf : Fb 17179869184 f) : FZ 113 [f.c] (.v (.bool (a0Q f))) := by
 refine kW Tryz.func113 (by cbv) (by rfl) fun w O hw => ?_
 obtain ⟨x, y, half, t⟩ := f
 obtain ⟨b1, b2, b3⟩ := hf
 simp only at b1 b2 b3
 have h1 := a6Z _ (Rbs.three (by decide) (b1.mono (m := 68719476736) (by decide)) (b2.mono (m := 68719476736) (by decide)) (b3.mono (m := 68719476736) (by decide)))
 rw [b0d] at h1
 have h4 := Z4 t b3
 unfold a0Q a4z
 simp only
 generalize (I7 x && I7 y && I7 t) = q1 at *
 generalize F3 (Nm.d9 t) = n at *
 simp only [j6]
 simp only [Fr.c, Fr.enc, rts, rcs, rc, sb, ints, c1F, c2b] at *
 (repeat first | refine uA ?_ | (refine uK ?_ ?_; focus first | omega | (intros; simp_all <;> omega)) | simp (disch := omega) only [go_sem, Nat.reduceBEq, Nat.reduceAdd, ww] | (refine uD h4 ?_ ?_ ?_; exact tz hw; exact rfl) | (refine uE h1 ?_ ?_ ?_ ?_; exact tz hw; exact rfl; focus (repeat' first | exact p8.nil | exact Imp.refl rfl | exact Imp.frz rfl rfl rfl | (refine Imp.a0x rfl rfl ?_ ?_; (focus ((try simp only [c1C]); omega)); (focus first | rfl | assumption)) | refine p8.cons ?_ ?_); done))
 have e : (q1 && !(half && !decide (n = 0))) = (q1 && (!half || decide (n = 0))) := by cases q1 <;> cases half <;> simp
 rw [e]
 exact S.done (j3.out rfl (Imp.refl (by rfl)) rfl)
theorem b9b (f : Fr) (hf : Fb 17179869184 f) : FZ 112 [f.c] (.v (.bool (!a0Q f))) := by
 refine kW Tryz.func112 (by cbv) (by rfl) fun w O hw => ?_
 have h := b7V f hf
 generalize a0Q f = q at *
 simp only [j6]
 simp only [Fr.c, Fr.enc, sb] at *
 (repeat first | refine uA ?_ | (refine uK ?_ ?_; focus first | omega | (intros; simp_all <;> omega)) | simp (disch := omega) only [go_sem, Nat.reduceBEq, Nat.reduceAdd, ww] | (refine uD h ?_ ?_ ?_; exact tz hw; exact rfl))
 exact S.done (j3.out rfl (Imp.refl rfl) rfl)
theorem b9u (v : Vt) (hv : Vb 68719476736 v) : FZ 115 [v.c] (.v (.bool (!a5u v))) := by
 refine kW Tryz.func115 (by cbv) (by rfl) fun w O hw => ?_
 have h := a6Z _ (Rbs.two (by decide) hv.1 hv.2)
 rw [a9J] at h
 unfold a5u
 generalize (I7 v.x && I7 v.y) = q at *
 simp only [j6]
 simp only [Vt.c, Vt.enc, rts, rcs, sb, c1F, c2b] at *
 (repeat first | refine uA ?_ | (refine uK ?_ ?_; focus first | omega | (intros; simp_all <;> omega)) | simp (disch := omega) only [go_sem, Nat.reduceBEq, Nat.reduceAdd, ww] | (refine uE h ?_ ?_ ?_ ?_; exact tz hw; exact rfl; focus (repeat' first | exact p8.nil | exact Imp.refl rfl | exact Imp.frz rfl rfl rfl | (refine Imp.a0x rfl rfl ?_ ?_; (focus ((try simp only [c1C]); omega)); (focus first | rfl | assumption)) | refine p8.cons ?_ ?_); done))
 exact S.done (j3.out rfl (Imp.refl rfl) rfl)
theorem b6a {a : Am} {q : List Nm.Rt} (h : a1q a q = 0) : q.length = a.links.length := by
 unfold a1q at h
 split at h
 ·rename_i h1; exact absurd h h1
 ·split at h
  ·cases h
  ·rename_i h2; exact Classical.not_not.1 h2
theorem c1b (a : Am) (x : Ast) (parts : Nat) (ha : Ab 1073741824 a) (hx : Asb 1073741824 x) (hp : parts <= 1073741824) : FZ 110 [a.c, x.c, .v (.int .i64 (parts : Int))] (ints (a0c a x parts)) := by
 refine kW b1C b1n (by rfl) fun w O hw => ?_
 have h1 := a6Z x.q ⟨by have := hx.1.1; omega, fun r hr => (hx.1.2 r hr).mono (by decide)⟩
 have h2 := a6Z x.v ⟨by have := hx.2.1; omega, fun r hr => (hx.2.2 r hr).mono (by decide)⟩
 have h3 := c0h a x.q ha hx.1
 have hln := b6a (a := a) (q := x.q)
 unfold a0c
 generalize a1q a x.q = e at *
 obtain ⟨q, v, power, holds⟩ := x
 simp only at h1 h2 h3 hln ⊢
 generalize q.all I7 = g1 at *
 generalize v.all I7 = g2 at *
 obtain ⟨hvn, hvb⟩ := hx.2
 obtain ⟨name, ⟨bx, by', half, t⟩, links⟩ := a
 obtain ⟨b0, ⟨b1, b2, b3⟩, hn, hb⟩ := ha
 simp only at b0 b1 b2 b3 hn hb hln hvn hvb ⊢
 simp only [a6j, j6, TT, II, OA, OB, OC, MM, LL, VV, FF, MG, LG, VG, FG]
 simp only [Am.c, Am.enc, Ast.c, Ast.enc, lks, rts, sb, ints] at *
 (repeat first | refine uA ?_ | (refine uK ?_ ?_; focus first | omega | (intros; simp_all <;> omega)) | simp (disch := omega) only [go_sem, Nat.reduceBEq, Nat.reduceAdd, ww] | (refine uD h1 ?_ ?_ ?_; exact tz hw; exact rfl) | (refine uD h2 ?_ ?_ ?_; exact tz hw; exact rfl))
 refine S.cond rfl (fun hc => ?_) (fun hc => ?_)
 ·rw [if_pos (by cases g1 <;> cases g2 <;> simp_all)]
  (repeat first | refine uA ?_ | (refine uK ?_ ?_; focus first | omega | (intros; simp_all <;> omega)) | simp (disch := omega) only [go_sem, Nat.reduceBEq, Nat.reduceAdd, ww])
  exact S.done (j3.out rfl (Imp.refl rfl) rfl)
 rw [if_neg (by cases g1 <;> cases g2 <;> simp_all)]
 (repeat first | refine uA ?_ | (refine uK ?_ ?_; focus first | omega | (intros; simp_all <;> omega)) | simp (disch := omega) only [go_sem, Nat.reduceBEq, Nat.reduceAdd, ww] | (refine uD h3 ?_ ?_ ?_; exact tz hw; exact rfl))
 refine S.cond rfl (fun hc => ?_) (fun hc => ?_)
 ·rw [if_pos (by simpa using hc)]
  (repeat first | refine uA ?_ | (refine uK ?_ ?_; focus first | omega | (intros; simp_all <;> omega)) | simp (disch := omega) only [go_sem, Nat.reduceBEq, Nat.reduceAdd, ww])
  exact S.done (j3.out rfl (Imp.refl rfl) rfl)
 rw [if_neg (by simpa using hc)]
 have hln := hln (by simpa using hc)
 (repeat first | refine uA ?_ | (refine uK ?_ ?_; focus first | omega | (intros; simp_all <;> omega)) | simp (disch := omega) only [go_sem, Nat.reduceBEq, Nat.reduceAdd, ww, c1o])
 refine S.cond rfl (fun hc => ?_) (fun hc => ?_)
 ·rw [if_pos (by simp only [c2d, Bool.not_eq_true', c1v, c1A] at hc; omega)]
  (repeat first | refine uA ?_ | (refine uK ?_ ?_; focus first | omega | (intros; simp_all <;> omega)) | simp (disch := omega) only [go_sem, Nat.reduceBEq, Nat.reduceAdd, ww])
  exact S.done (j3.out rfl (Imp.refl rfl) rfl)
 rw [if_neg (by simp only [c1J, Bool.not_eq_false', c1v, c1A] at hc; omega)]
 have hvl : v.length = links.length := by simp only [c1J, Bool.not_eq_false', c1v, c1A] at hc; omega
 (repeat first | refine uA ?_ | (refine uK ?_ ?_; focus first | omega | (intros; simp_all <;> omega)) | simp (disch := omega) only [go_sem, Nat.reduceBEq, Nat.reduceAdd, ww, c1o])
 refine S.loop (X := Nat) (fun i => ⟨[(4, .bp 1 0), (46, lks links), (47, ints links.length), (48, ints i)], [.gone, .box 81 [rts q, rts v, .v (.bool power), ints holds]]⟩) (fun i => i <= links.length /\ G9 a0o (links.zip v) = G9 a0o ((links.zip v).drop i)) (fun i => links.length - i) 0 ⟨c1u _, rfl⟩ (by (repeat first | refine uA ?_ | (refine ⟨?_, ?_⟩; focus first | rfl | simp [slot]) | rfl | simp)) ?_
 rintro i ⟨hi, hg⟩
 simp only [lks, ints, rts]
 (repeat first | refine uA ?_ | (refine uK ?_ ?_; focus first | omega | (intros; simp_all <;> omega)) | simp (disch := omega) only [go_sem, Nat.reduceBEq, Nat.reduceAdd, ww])
 (refine uJ rfl (fun hc => ?_) fun hc => ?_)
 ·have hi' : i < links.length := by omega
  have hgi := c1n hi'
  have hgv := c1n (show i < v.length by omega)
  generalize links[i] = l at hgi
  generalize v[i]'_ = r at hgv
  have hz := H6 hgi hgv
  have hst := a1B (f := a0o) hz
  have hnx := a1y (f := a0o) hz
  have bl := hb l (c1q hgi)
  have br := (hvb r (c1q hgv)).mono (m := 17179869184) (by decide)
  have o1 := a5z r br
  have o2 := X5 (Nm.ofQ (G7 (Nm.d9 r))) l.speed (a3W (br.fit (by decide))) (bl.2.2.2.1.mono (by decide))
  rw [Nm.E8] at o2
  unfold a0o at hst hnx
  simp only at hst hnx
  generalize Nm.C8 (G7 (Nm.d9 r)) (Nm.d9 l.speed) = n1 at *
  unfold rq at o1
  generalize Nm.ofQ (G7 (Nm.d9 r)) = ar at *
  have hvi : (i : Int) < v.length := by omega
  simp only [rc, sb, ints] at o1 o2
  (repeat first | refine uA ?_ | (refine uK ?_ ?_; focus first | omega | (intros; simp_all <;> omega)) | simp (disch := omega) only [go_sem, Nat.reduceBEq, Nat.reduceAdd, ww, hgi, hgv, c1p, c1o, Lk.enc, rcs, vts, sb, c1x] | (refine uD o1 ?_ ?_ ?_; exact tz hw; exact rfl) | (refine uD o2 ?_ ?_ ?_; exact tz hw; exact rfl))
  refine S.cond rfl (fun hc2 => ?_) (fun hc2 => ?_)
  ·have hp : 0 < n1 := by simpa using hc2
   rw [if_pos hp] at hst
   rw [hg, show a0o = fun x : Lk × Nm.Rt => if 0 < Nm.C8 (G7 (Nm.d9 x.2)) (Nm.d9 x.1.speed) then 1 else 0 from rfl, hst (by decide)]
   (repeat first | refine uA ?_ | (refine uK ?_ ?_; focus first | omega | (intros; simp_all <;> omega)) | simp (disch := omega) only [go_sem, Nat.reduceBEq, Nat.reduceAdd, ww])
   exact S.done (j3.out rfl (Imp.refl rfl) rfl)
  ·have hp : ¬ 0 < n1 := by simpa using hc2
   rw [if_neg hp] at hnx
   (repeat first | refine uA ?_ | (refine uK ?_ ?_; focus first | omega | (intros; simp_all <;> omega)) | simp (disch := omega) only [go_sem, Nat.reduceBEq, Nat.reduceAdd, ww])
   refine S.next (i + 1) ⟨by omega, ?_⟩ (by omega) (by (repeat first | refine uA ?_ | (refine ⟨?_, ?_⟩; focus first | rfl | simp [slot]) | rfl | simp))
   rw [hg, show a0o = fun x : Lk × Nm.Rt => if 0 < Nm.C8 (G7 (Nm.d9 x.2)) (Nm.d9 x.1.speed) then 1 else 0 from rfl, hnx rfl]
 ·rw [hg, a2b (by rw [List.length_zip]; omega)]
  (repeat first | refine uA ?_ | (refine uK ?_ ?_; focus first | omega | (intros; simp_all <;> omega)) | simp (disch := omega) only [go_sem, Nat.reduceBEq, Nat.reduceAdd, ww])
  exact S.done (j3.out rfl (Imp.refl rfl) rfl)
set_option maxHeartbeats 16000000
theorem c0T (h : List Int) (n : Int) : (a0U (.int .i64 n) (hdE h)).getD (.bool false) = .bool (h.contains n) := by
 rw [b8R]; cases h.contains n <;> rfl
theorem b3X {α : Type} (p : α -> Bool) (l : List α) : l.all p = !l.any fun x => !p x := by rw [List.not_any_eq_all_not]; simp
theorem a8e (w : Wk) (s : Stt) (hb : Wb 1073741824 w) (hs : Stb 1073741824 s) : FZ 32 [w.c, s.c] (ints (N9 w s)) := by
 refine kW a9z a9D (by rfl) fun w' O hw => ?_
 have hwk := a7P w hb
 obtain ⟨⟨n1, b1⟩, ⟨n2, b2⟩, ⟨n3, b3⟩, n4⟩ := hs
 have hone := fun (a : Am) (x : Ast) (ha : a ∈ w.arms) (hx : x ∈ s.arms) => c1b a x w.parts.length (hb.arms.2 a ha) (b1 x hx) (by have := hb.parts.1; omega)
 have hfr := b4D 112 (by kernel_rfl) (fun f => !a0Q f) s.parts (by omega) (fun f hf => b9b f ⟨(b2 f hf).1.mono (by decide), (b2 f hf).2.1.mono (by decide), (b2 f hf).2.2.mono (by decide)⟩)
 have hvc := b1J 115 (by kernel_rfl) (fun v => !a5u v) s.people (by omega) (fun v hv => b9u v ((b3 v hv).mono (by decide)))
 have m1 := hb.arms.1
 have m2 := hb.parts.1
 have m3 := hb.gates.1
 unfold N9
 rw [b3X a0Q, b3X a5u]
 generalize a0p w = e0 at *
 generalize (s.parts.any fun f => !a0Q f) = g1 at *
 generalize (s.people.any fun v => !a5u v) = g2 at *
 obtain ⟨arms, walls, parts, slots, gates, walk⟩ := w
 obtain ⟨tick, sarms, sparts, people, sgates⟩ := s
 simp only at *
 simp only [a5g, j6, TT, II, OA, OB, OC, MM, LL, VV, FF, MG, LG, VG, FG]
 simp only [Wk.c, Wk.enc, Stt.c, Stt.enc, ams, wls, pts, sls, gts, J9, frs, vts, bls, sb, ints] at hwk hfr hvc ⊢
 (repeat first | refine uA ?_ | (refine uK ?_ ?_; focus first | omega | (intros; simp_all <;> omega)) | simp (disch := omega) only [go_sem, Nat.reduceBEq, Nat.reduceAdd, ww] | (refine uD hwk ?_ ?_ ?_; exact tz hw; exact rfl))
 refine S.cond rfl (fun hc => ?_) (fun hc => ?_)
 ·rw [if_pos (by simpa using hc)]
  (repeat first | refine uA ?_ | (refine uK ?_ ?_; focus first | omega | (intros; simp_all <;> omega)) | simp (disch := omega) only [go_sem, Nat.reduceBEq, Nat.reduceAdd, ww])
  exact S.done (j3.out rfl (Imp.refl rfl) rfl)
 rw [if_neg (by simpa using hc)]
 (repeat first | refine uA ?_ | (refine uK ?_ ?_; focus first | omega | (intros; simp_all <;> omega)) | simp (disch := omega) only [go_sem, Nat.reduceBEq, Nat.reduceAdd, ww, c1o])
 refine S.cond rfl (fun hc => ?_) (fun hc => ?_)
 ·rw [if_pos (by simp only [c1v] at hc; omega)]
  (repeat first | refine uA ?_ | (refine uK ?_ ?_; focus first | omega | (intros; simp_all <;> omega)) | simp (disch := omega) only [go_sem, Nat.reduceBEq, Nat.reduceAdd, ww])
  exact S.done (j3.out rfl (Imp.refl rfl) rfl)
 rw [if_neg (by simp only [c1A] at hc; omega)]
 (repeat first | refine uA ?_ | (refine uK ?_ ?_; focus first | omega | (intros; simp_all <;> omega)) | simp (disch := omega) only [go_sem, Nat.reduceBEq, Nat.reduceAdd, ww, c1o])
 refine S.cond rfl (fun hc => ?_) (fun hc => ?_)
 ·rw [if_pos (by simp only [c2d, Bool.not_eq_true', c1v, c1A] at hc; omega)]
  (repeat first | refine uA ?_ | (refine uK ?_ ?_; focus first | omega | (intros; simp_all <;> omega)) | simp (disch := omega) only [go_sem, Nat.reduceBEq, Nat.reduceAdd, ww])
  exact S.done (j3.out rfl (Imp.refl rfl) rfl)
 have hls : sarms.length = arms.length := by simp only [c1J, Bool.not_eq_false', c1v, c1A] at hc; omega
 rw [if_neg (by simp only [c1J, Bool.not_eq_false', c1v, c1A] at hc; omega)]
 (repeat first | refine uA ?_ | (refine uK ?_ ?_; focus first | omega | (intros; simp_all <;> omega)) | simp (disch := omega) only [go_sem, Nat.reduceBEq, Nat.reduceAdd, ww, c1o])
 refine S.loop (X := Nat × List Int) (fun x => ⟨[(2, .bp 0 0), (3, .bp 1 0), (6, .mp 2), (56, J9 sarms), (57, ints sarms.length), (58, ints x.1)], [.box 30 [ams arms, wls walls, pts parts, sls slots, gts gates, .v (.bool walk.neg), sb walk.num, sb walk.den], .box 47 [ints tick, J9 sarms, frs sparts, vts people, bls sgates], .map false (hdE x.2)]⟩)
  (fun x => x.1 <= sarms.length /\ u6 (R5 parts.length) [] (arms.zip sarms) = u6 (R5 parts.length) x.2 ((arms.zip sarms).drop x.1)) (fun x => sarms.length - x.1) (0, []) ⟨c1u _, rfl⟩ (by (repeat first | refine uA ?_ | (refine ⟨?_, ?_⟩; focus first | rfl | simp [slot]) | rfl | simp)) ?_
 rintro ⟨i, h⟩ ⟨hi, hg⟩
 simp only [ams, wls, pts, sls, gts, J9, frs, vts, bls, sb, ints] at hi hg ⊢
 (repeat first | refine uA ?_ | (refine uK ?_ ?_; focus first | omega | (intros; simp_all <;> omega)) | simp (disch := omega) only [go_sem, Nat.reduceBEq, Nat.reduceAdd, ww])
 (refine uJ rfl (fun hc => ?_) fun hc => ?_)
 ·have hgx := c1n (show i < sarms.length by omega)
  have hga := c1n (show i < arms.length by omega)
  generalize sarms[i]'_ = x at hgx
  generalize arms[i]'_ = a at hga
  have hz := H6 hga hgx
  have hst := a2m (f := R5 parts.length) (s := h) hz
  have hnx := a2l (f := R5 parts.length) (s := h) hz
  have ho := hone a x (c1q hga) (c1q hgx)
  have hlk := c0T h x.holds
  have hpt := c0E h x.holds
  have hai : (i : Int) < arms.length := by omega
  have hv : R5 parts.length h (a, x) = if a0c a x parts.length ≠ 0 then (a0c a x parts.length, h) else if (decide (0 <= x.holds) && h.contains x.holds) = true then (10, h) else (0, a6S h x.holds) := rfl
  rw [hv] at hst hnx
  clear hv
  generalize a0c a x parts.length = e1 at *
  generalize h.contains x.holds = c1 at *
  simp only [Am.c, Am.enc, Ast.c, Ast.enc, lks, rts, sb, ints] at ho
  (repeat first | refine uA ?_ | (refine uK ?_ ?_; focus first | omega | (intros; simp_all <;> omega)) | simp (disch := omega) only [go_sem, Nat.reduceBEq, Nat.reduceAdd, ww, hga, hgx, c1p, c1o, Am.enc, Ast.enc, lks, rts, sb, ints, c1x] | (refine uD ho ?_ ?_ ?_; exact tz hw; exact rfl))
  refine S.cond rfl (fun hc2 => ?_) (fun hc2 => ?_)
  ·have h0 : e1 ≠ 0 := by simpa using hc2
   rw [if_pos h0] at hst
   rw [hg, hst h0, if_pos h0]
   (repeat first | refine uA ?_ | (refine uK ?_ ?_; focus first | omega | (intros; simp_all <;> omega)) | simp (disch := omega) only [go_sem, Nat.reduceBEq, Nat.reduceAdd, ww])
   exact S.done (j3.out rfl (Imp.refl rfl) rfl)
  have h0 : e1 = 0 := by simpa using hc2
  rw [if_neg (by simp [h0])] at hst hnx
  (repeat first | refine uA ?_ | (refine uK ?_ ?_; focus first | omega | (intros; simp_all <;> omega)) | simp (disch := omega) only [go_sem, Nat.reduceBEq, Nat.reduceAdd, ww, hlk])
  refine S.cond rfl (fun hc3 => ?_) (fun hc3 => ?_)
  ·rw [if_pos hc3] at hst
   rw [hg, hst (by simp), if_pos (by simp)]
   (repeat first | refine uA ?_ | (refine uK ?_ ?_; focus first | omega | (intros; simp_all <;> omega)) | simp (disch := omega) only [go_sem, Nat.reduceBEq, Nat.reduceAdd, ww])
   exact S.done (j3.out rfl (Imp.refl rfl) rfl)
  ·rw [if_neg (by rw [hc3]; decide)] at hnx
   (repeat first | refine uA ?_ | (refine uK ?_ ?_; focus first | omega | (intros; simp_all <;> omega)) | simp (disch := omega) only [go_sem, Nat.reduceBEq, Nat.reduceAdd, ww, hpt])
   refine S.next (x := (i, h)) (i + 1, a6S h x.holds) ⟨by simp only; omega, by simp only; rw [hg, hnx rfl]⟩ (by simp only; omega) (by (repeat first | refine uA ?_ | (refine ⟨?_, ?_⟩; focus first | rfl | simp [slot]) | rfl | simp))
 ·rw [hg, a2T (by rw [List.length_zip]; omega), if_neg (by simp)]
  (repeat first | refine uA ?_ | (refine uK ?_ ?_; focus first | omega | (intros; simp_all <;> omega)) | simp (disch := omega) only [go_sem, Nat.reduceBEq, Nat.reduceAdd, ww] | (refine uD hfr ?_ ?_ ?_; exact tz hw; exact rfl) | (refine uD hvc ?_ ?_ ?_; exact tz hw; exact rfl))
  refine S.cond rfl (fun hc => ?_) (fun hc => ?_)
  ·rw [if_neg (by cases g1 <;> cases g2 <;> simp_all)]
   (repeat first | refine uA ?_ | (refine uK ?_ ?_; focus first | omega | (intros; simp_all <;> omega)) | simp (disch := omega) only [go_sem, Nat.reduceBEq, Nat.reduceAdd, ww])
   exact S.done (j3.out rfl (Imp.refl rfl) rfl)
  ·rw [if_pos (by cases g1 <;> cases g2 <;> simp_all)]
   (repeat first | refine uA ?_ | (refine uK ?_ ?_; focus first | omega | (intros; simp_all <;> omega)) | simp (disch := omega) only [go_sem, Nat.reduceBEq, Nat.reduceAdd, ww])
   exact S.done (j3.out rfl (Imp.refl rfl) rfl)
theorem J4 : Rb 8 (Nm.ofQ 0) := ⟨Nm.F8 (by decide), Nm.F8 (by decide)⟩
theorem b1b : FZ 157 [.v (.int .i64 0)] (rq 0) := by
 have := a4r 0 (by decide) (by decide)
 rwa [show ((0 : Int) : Rat) = 0 from rfl] at this
theorem b3N : FZ 122 [] a2F.c := by
 refine kW Tryz.func122 (by cbv) (by rfl) fun w O hw => ?_
 have h1 := b1b
 have h2 := a5M (Nm.ofQ 0) (J4.mono (by decide))
 rw [Nm.E8] at h2
 unfold tq rq at *
 unfold a2F
 generalize Nm.ofQ 0 = r at *
 simp only [j6]
 simp only [Fr.c, Fr.enc, rc, tc, sb] at *
 (repeat first | refine uA ?_ | (refine uK ?_ ?_; focus first | omega | (intros; simp_all <;> omega)) | simp (disch := omega) only [go_sem, Nat.reduceBEq, Nat.reduceAdd, ww] | (refine uD h1 ?_ ?_ ?_; exact tz hw; exact rfl) | (refine uD h2 ?_ ?_ ?_; exact tz hw; exact rfl))
 (refine S.done ?_; simp only [q8, l9, go_sem, Nat.reduceBEq, Nat.reduceAdd, Nat.reduceLeDiff, Int.reduceToNat, Int.reducePow]; (repeat (refine ⟨?_, ?_⟩; focus first | trivial | omega | simp)); exact j3.out rfl (Imp.refl rfl) rfl)
theorem b9x (w : Wk) (hwb : Wb 1073741824 w) (h : a0p w = 0) : FZ 97 [w.c] (.tup [(K7 w).c, ints 0]) := by
 refine kW a9B a9u (by rfl) fun w' O hw => ?_
 have hck := a7P w hwb
 rw [h] at hck
 obtain ⟨n1, b1⟩ := hwb.arms
 have n3 := hwb.parts.1
 have n4 := hwb.slots.1
 have n5 := hwb.gates.1
 have hz := b1b
 have hfz := b3N
 have hpe : ∀ i, a6B w i = if h : i < w.slots.length then (w.slots[i]).frame else a2F := fun _ => rfl
 unfold K7
 generalize hfp : a6B w = fP at *
 obtain ⟨arms, walls, parts, slots, gates, walk⟩ := w
 simp only at n1 b1 n3 n4 n5 hpe ⊢
 simp only [a4N, j6, TT, II, OA, OB, OC, MM, LL, VV, FF, MG, LG, VG, FG]
 simp only [Wk.c, Wk.enc, Stt.c, Stt.enc, ams, wls, pts, sls, gts, J9, frs, vts, bls, rc, sb, ints] at hck ⊢
 (repeat first | refine uA ?_ | (refine uK ?_ ?_; focus first | omega | (intros; simp_all <;> omega)) | simp (disch := omega) only [go_sem, Nat.reduceBEq, Nat.reduceAdd, ww] | (refine uD hck ?_ ?_ ?_; exact tz hw; exact rfl))
 refine S.cond rfl (fun hc => by simp at hc) (fun hc => ?_)
 (repeat first | refine uA ?_ | (refine uK ?_ ?_; focus first | omega | (intros; simp_all <;> omega)) | simp (disch := omega) only [go_sem, Nat.reduceBEq, Nat.reduceAdd, ww, c1o])
 refine S.loop (X := Nat) (fun i => ⟨[(1, .bp 0 0), (2, .bp 1 0), (5, .bp 2 0), (20, ams arms), (21, ints arms.length), (22, ints i)], [.box 30 [ams arms, wls walls, pts parts, sls slots, gts gates, .v (.bool walk.neg), sb walk.num, sb walk.den], .box 47 [.v (.int .i64 0), .v (.slice none 0 0), .v (.slice none 0 0), .v (.slice none 0 0), .v (.slice none 0 0)], .box 47 [.v (.int .i64 0), .rv 3, .rv 4, .v (.slice none 0 0), .v (.slice none 0 0)], .row 81 4 (((arms.take i).map U4).map Ast.enc), .row 36 10 []]⟩) (fun i => i <= arms.length) (fun i => arms.length - i) 0 (c1u _)
  (Ent.trans (Ent.a1E 2 1 81 4 rfl rfl rfl) (Ent.trans (Ent.a1E 2 2 36 10 rfl rfl rfl) (by (repeat first | refine uA ?_ | (refine ⟨?_, ?_⟩; focus first | rfl | simp [slot]) | rfl | simp)))) ?_
 intro i hi
 simp only [ams, wls, pts, sls, gts, vts, sb, ints]
 (repeat first | refine uA ?_ | (refine uK ?_ ?_; focus first | omega | (intros; simp_all <;> omega)) | simp (disch := omega) only [go_sem, Nat.reduceBEq, Nat.reduceAdd, ww])
 (refine uJ rfl (fun hc => ?_) fun hc => ?_)
 ·have hi' : i < arms.length := by omega
  have hgi := c1n hi'
  have hap : arms.take (i + 1) = arms.take i ++ [arms[i]] := c2e hi'
  have htl : (arms.take i).length = i := by rw [c1y]; omega
  generalize arms[i] = a at hgi hap
  obtain ⟨b0, _, nl, bl⟩ := b1 a (c1q hgi)
  (repeat first | refine uA ?_ | (refine uK ?_ ?_; focus first | omega | (intros; simp_all <;> omega)) | simp (disch := omega) only [go_sem, Nat.reduceBEq, Nat.reduceAdd, ww, hgi, c1p, c1o, Am.enc, lks, sb])
  refine S.loop (X := Nat) (fun k => ⟨[(1, .bp 0 0), (2, .bp 1 0), (5, .bp 2 0), (8, .bp 6 0), (20, ams arms), (21, ints arms.length), (22, ints i), (28, lks a.links), (29, ints a.links.length), (30, ints k)], [.box 30 [ams arms, wls walls, pts parts, sls slots, gts gates, .v (.bool walk.neg), sb walk.num, sb walk.den], .box 47 [.v (.int .i64 0), .v (.slice none 0 0), .v (.slice none 0 0), .v (.slice none 0 0), .v (.slice none 0 0)], .box 47 [.v (.int .i64 0), .rv 3, .rv 4, .v (.slice none 0 0), .v (.slice none 0 0)], .row 81 4 (((arms.take i).map U4).map Ast.enc), .row 36 10 [], .gone, .box 81 [.rv 7, .rv 8, .v (.bool false), .v (.int .i64 (-1))], .row 28 3 (((a.links.take k).map a0I).map rcs), .row 28 3 (((a.links.take k).map fun _ => Nm.ofQ 0).map rcs)]⟩) (fun k => k <= a.links.length) (fun k => a.links.length - k) 0 (c1u _)
   (Ent.trans (Ent.a1E 6 0 28 3 rfl rfl rfl) (Ent.trans (Ent.a1E 6 1 28 3 rfl rfl rfl) (by (repeat first | refine uA ?_ | (refine ⟨?_, ?_⟩; focus first | rfl | simp [slot]) | rfl | simp)))) ?_
  intro k hk
  simp only [ams, wls, pts, sls, gts, lks, vts, sb, ints]
  (repeat first | refine uA ?_ | (refine uK ?_ ?_; focus first | omega | (intros; simp_all <;> omega)) | simp (disch := omega) only [go_sem, Nat.reduceBEq, Nat.reduceAdd, ww])
  (refine uJ rfl (fun hc => ?_) fun hc => ?_)
  ·have hk' : k < a.links.length := by omega
   have hgk := c1n hk'
   have hak : a.links.take (k + 1) = a.links.take k ++ [a.links[k]] := c2e hk'
   have htk : (a.links.take k).length = k := by rw [c1y]; omega
   generalize a.links[k] = l at hgk hak
   obtain ⟨_, l2, l3, _⟩ := bl l (c1q hgk)
   have z1 := J4
   have z2 := l3.fit (by decide)
   have o1 := b2m l.high (Nm.ofQ 0) (l3.mono (by decide)) (J4.mono (by decide))
   rw [Nm.E8] at o1
   have z3 : Rb 1073741824 (Nm.ofQ (a0e (Nm.d9 l.high) 0)) := by unfold a0e; split; exact z2; exact z1.mono (by decide)
   have o2 := b5z l.low (Nm.ofQ (a0e (Nm.d9 l.high) 0)) (l2.mono (by decide)) (z3.mono (by decide))
   rw [Nm.E8] at o2
   have hq : a0I l = Nm.ofQ (a1v (Nm.d9 l.low) (a0e (Nm.d9 l.high) 0)) := rfl
   unfold rq at o1 o2 hz
   generalize Nm.ofQ (a1v (Nm.d9 l.low) (a0e (Nm.d9 l.high) 0)) = r2 at *
   generalize Nm.ofQ (a0e (Nm.d9 l.high) 0) = r1 at *
   generalize Nm.ofQ 0 = r0 at *
   simp only [rc, sb] at o1 o2 hz
   (repeat first | refine uA ?_ | (refine uK ?_ ?_; focus first | omega | (intros; simp_all <;> omega)) | simp (disch := omega) only [go_sem, Nat.reduceBEq, Nat.reduceAdd, ww, hgk, c1p, c1o, htk, Lk.enc, vts, sb] | (refine uD hz ?_ ?_ ?_; exact tz hw; exact rfl) | (refine uD o1 ?_ ?_ ?_; exact tz hw; exact rfl) | (refine uD o2 ?_ ?_ ?_; exact tz hw; exact rfl))
   refine S.next (k + 1) (by omega) (by omega) (by simp only [hak, hq, c2f, c1F, c2b, rcs, sb]; exact (by (repeat first | refine uA ?_ | (refine ⟨?_, ?_⟩; focus first | rfl | simp [slot]) | rfl | simp)))
  ·have hk' : k = a.links.length := by omega
   subst hk'
   rw [c1N]
   refine S.exit rfl ?_
   refine S.weaken (st' := ⟨[(1, .bp 0 0), (2, .bp 1 0), (5, .bp 2 0), (8, .bp 6 0), (20, ams arms), (21, ints arms.length), (22, ints i)], [.box 30 [ams arms, wls walls, pts parts, sls slots, gts gates, .v (.bool walk.neg), sb walk.num, sb walk.den], .box 47 [.v (.int .i64 0), .v (.slice none 0 0), .v (.slice none 0 0), .v (.slice none 0 0), .v (.slice none 0 0)], .box 47 [.v (.int .i64 0), .rv 3, .rv 4, .v (.slice none 0 0), .v (.slice none 0 0)], .row 81 4 (((arms.take i).map U4).map Ast.enc), .row 36 10 [], .gone, .box 81 (U4 a).enc]⟩) (Ent.mk _ _ (by (repeat first | refine uA ?_ | (refine ⟨?_, ?_⟩; focus first | rfl | simp [slot]) | rfl | simp)) (by (repeat' (first | exact L8.nil | exact RI.gone _ | exact RI.row _ _ _ _ rfl | exact RI.map _ _ _ rfl | exact RI.box _ _ _ (p8.refl rfl) | (refine RI.box _ _ _ ?_; (repeat' (first | exact p8.nil | exact Imp.refl rfl | exact Imp.frz rfl rfl rfl | exact Imp.P5 | refine p8.cons ?_ ?_))) | refine L8.cons ?_ ?_))) (c1u _)) ?_
   simp only [ams, wls, pts, sls, gts, vts, sb, ints, Ast.enc, rts]
   (repeat first | refine uA ?_ | (refine uK ?_ ?_; focus first | omega | (intros; simp_all <;> omega)) | simp (disch := omega) only [go_sem, Nat.reduceBEq, Nat.reduceAdd, ww, c1o, htl])
   refine S.next (i + 1) (by omega) (by omega) (by simp only [hap, c2f, c1F, c2b, Ast.enc, rts, ints]; exact (by (repeat first | refine uA ?_ | (refine ⟨?_, ?_⟩; focus first | rfl | simp [slot]) | rfl | simp)))
 ·have hi' : i = arms.length := by omega
  subst hi'
  rw [c1N]
  (repeat first | refine uA ?_ | (refine uK ?_ ?_; focus first | omega | (intros; simp_all <;> omega)) | simp (disch := omega) only [go_sem, Nat.reduceBEq, Nat.reduceAdd, ww, c1o])
  refine S.loop (X := Nat) (fun i => ⟨[(1, .bp 0 0), (2, .bp 1 0), (5, .bp 2 0), (62, ints parts.length), (63, ints i)], [.box 30 [ams arms, wls walls, pts parts, sls slots, gts gates, .v (.bool walk.neg), sb walk.num, sb walk.den], .box 47 [.v (.int .i64 0), .v (.slice none 0 0), .v (.slice none 0 0), .v (.slice none 0 0), .v (.slice none 0 0)], .box 47 [.v (.int .i64 0), .rv 3, .rv 4, .v (.slice none 0 0), .v (.slice none 0 0)], .row 81 4 ((arms.map U4).map Ast.enc), .row 36 10 (((List.range i).map fP).map Fr.enc)]⟩) (fun i => i <= parts.length) (fun i => parts.length - i) 0 (c1u _) (by (repeat first | refine uA ?_ | (refine ⟨?_, ?_⟩; focus first | rfl | simp [slot]) | rfl | simp)) ?_
  intro i hi
  simp only [ams, wls, pts, sls, gts, vts, sb, ints]
  (repeat first | refine uA ?_ | (refine uK ?_ ?_; focus first | omega | (intros; simp_all <;> omega)) | simp (disch := omega) only [go_sem, Nat.reduceBEq, Nat.reduceAdd, ww])
  (refine uJ rfl (fun hc => ?_) fun hc => ?_)
  ·have hrl : ((List.range i).map fP).length = i := by simp
   simp only [a2F, Fr.c, Fr.enc, sb] at hfz
   (repeat first | refine uA ?_ | (refine uK ?_ ?_; focus first | omega | (intros; simp_all <;> omega)) | simp (disch := omega) only [go_sem, Nat.reduceBEq, Nat.reduceAdd, ww] | (refine uD hfz ?_ ?_ ?_; exact tz hw; exact rfl))
   refine S.join (Y := Fr) (fun f => ⟨[(1, .bp 0 0), (2, .bp 1 0), (5, .bp 2 0), (12, .bp 5 0), (62, ints parts.length), (63, ints i)], [.box 30 [ams arms, wls walls, pts parts, sls slots, gts gates, .v (.bool walk.neg), sb walk.num, sb walk.den], .box 47 [.v (.int .i64 0), .v (.slice none 0 0), .v (.slice none 0 0), .v (.slice none 0 0), .v (.slice none 0 0)], .box 47 [.v (.int .i64 0), .rv 3, .rv 4, .v (.slice none 0 0), .v (.slice none 0 0)], .row 81 4 ((arms.map U4).map Ast.enc), .row 36 10 (((List.range i).map fP).map Fr.enc), .box 36 f.enc]⟩) (fun f => f = fP i) ?_ ?_
   ·refine S.cond rfl (fun hc => ?_) (fun hc => ?_)
    ·have hsi : i < slots.length := by simp at hc; omega
     have hgs := c1n hsi
     have hf : fP i = (slots[i]).frame := by rw [hpe i, dif_pos hsi]
     generalize slots[i] = s at hgs hf
     (repeat first | refine uA ?_ | (refine uK ?_ ?_; focus first | omega | (intros; simp_all <;> omega)) | simp (disch := omega) only [go_sem, Nat.reduceBEq, Nat.reduceAdd, ww, hgs, c1p, c1o, Sl.enc, sb, c1x])
     exact S.met s.frame hf.symm (by simp only [ams, wls, pts, sls, gts, vts, sb, ints, Fr.enc]; exact (by (repeat first | refine uA ?_ | (refine ⟨?_, ?_⟩; focus first | rfl | simp [slot]) | rfl | simp)))
    ·have hf : fP i = a2F := by rw [hpe i, dif_neg (by simp at hc; omega)]
     (repeat first | refine uA ?_ | (refine uK ?_ ?_; focus first | omega | (intros; simp_all <;> omega)) | simp (disch := omega) only [go_sem, Nat.reduceBEq, Nat.reduceAdd, ww])
     exact S.met a2F hf.symm (by simp only [ams, wls, pts, sls, gts, vts, sb, ints, Fr.enc, a2F]; exact (by (repeat first | refine uA ?_ | (refine ⟨?_, ?_⟩; focus first | rfl | simp [slot]) | rfl | simp)))
   rintro f hf
   simp only [ams, wls, pts, sls, gts, vts, sb, ints, Fr.enc]
   (repeat first | refine uA ?_ | (refine uK ?_ ?_; focus first | omega | (intros; simp_all <;> omega)) | simp (disch := omega) only [go_sem, Nat.reduceBEq, Nat.reduceAdd, ww, c1o, hrl, List.length_range])
   refine S.next (i + 1) (by omega) (by omega) (by simp only [List.range_succ, c2f, c1F, c2b, <- hf, Fr.enc, sb]; exact (by (repeat first | refine uA ?_ | (refine ⟨?_, ?_⟩; focus first | rfl | simp [slot]) | rfl | simp)))
  ·have hi' : i = parts.length := by omega
   subst hi'
   simp only [List.map_replicate]
   (repeat first | refine uA ?_ | (refine uK ?_ ?_; focus first | omega | (intros; simp_all <;> omega)) | simp (disch := omega) only [go_sem, Nat.reduceBEq, Nat.reduceAdd, ww, c1o, c1x])
   (refine S.done ?_; simp only [q8, l9, go_sem, Nat.reduceBEq, Nat.reduceAdd, Nat.reduceLeDiff, Int.reduceToNat, Int.reducePow]; (repeat (refine ⟨?_, ?_⟩; focus first | trivial | omega | simp)); exact j3.out rfl (Imp.tup (by (repeat' (first | exact p8.nil | exact Imp.refl rfl | exact Imp.frz rfl rfl rfl | exact Imp.P5 | refine Imp.agg ?_ | refine p8.cons ?_ ?_)))) rfl)
open Go Eng
def c0S : List Nat := [160]
def b9G (f : Nat) : Bool := c0S.contains f
def a2Q : L9 := ⟨68, [.cell 4 true 4, .tmp 5], .seq (.reg [OA 2 (.box 60 (TT 0)), OA 3 (.box 81 (TT 1)), OA 4 (.alloc 81 [.slice none 0 0, .slice none 0 0, .bool false, .int .i64 0]), OA 5 (.mv (II 0))]) (.seq (.seq (.reg [LL 10 12 2, FF 11 0 3,
 VV 12 11, FF 13 1 3, VV 14 13, OA 15 (.call 199 [TT 10, TT 12, TT 14]), MM 6 15]) (.seq (.reg [MM 16 6, OA 17 (.bin .neq (TT 16) (II 0))]) (.cond (TT 17) (.seq (.reg [OA 18 (.build [.slice none 0 0, .slice none 0 0, .bool false,
 .int .i64 0] []), MM 19 6, OB (.store 4 (TT 4) (TT 18)), MM 5 19]) .ret) .skip))) (.seq (.F4 [.q, .q, .e none false, .l, .l, .e none false, .l, .l, .l, .l, .q, .a, .e (some 7) true] [FF 20 0 3, VV 21 20, OA 22 (.call 160 [TT
 21]), FF 23 1 3, VV 24 23, OA 25 (.call 160 [TT 24]), FF 26 2 3, VV 27 26, FF 28 3 3, VV 29 28, OA 30 (.build [.slice none 0 0, .slice none 0 0, .bool false, .int .i64 0] [(0, (1, TT 22)), (1, (1, TT 25)), (2, (1, TT 27)), (3,
 (1, TT 29))]), OA 7 (.alloc 81 [.slice none 0 0, .slice none 0 0, .bool false, .int .i64 0]), OB (.store 4 (TT 7) (TT 30))]) (.seq (.seq (.reg [FF 31 11 2, VV 32 31, OA 33 (.len false (TT 32)), OA 34 (.mv (II 0))]) (.block 0
 (.loop (.seq (.reg [OA 35 (.bin .lss (TT 34) (TT 33))]) (.seq (.cond (TT 35) .skip (.exit 0)) (.seq (.block 1 (.seq (.reg [MM 36 34, OA 37 (.p9 16 (TT 32) (TT 34)), LL 38 16 37, OA 9 (.alloc 127 [.bool false, .string ⟨#[]⟩,
 .string ⟨#[]⟩, .bool false, .string ⟨#[]⟩, .string ⟨#[]⟩, .bool false, .string ⟨#[]⟩, .string ⟨#[]⟩, .bool false, .string ⟨#[]⟩, .string ⟨#[]⟩, .bool false, .string ⟨#[]⟩, .string ⟨#[]⟩, .slice none 0 0]), MM 8 36, OB (.store 16
 (TT 9) (TT 38))]) (.seq (.F4 [.q, .q, .q, .q, .q, .q, .q, .q, .q, .q, .q, .q, .e none true] [FF 39 1 7, VV 40 39, MM 41 8, FF 42 12 9, LL 43 3 42, FF 44 1 3, VV 45 44, MM 46 8, OA 47 (.p9 3 (TT 45) (TT 46)), LL 48 3 47, OA
 49 (.call 200 [TT 43, TT 48]), OA 50 (.p9 3 (TT 40) (TT 41)), OB (.store 3 (TT 50) (TT 49))]) (.F4 [.q, .q, .q, .q, .q, .q, .q, .q, .q, .q, .q, .q, .q, .q, .q, .e none true] [FF 51 0 7, VV 52 51, MM 53 8, FF 54 0 3, VV 55
 54, MM 56 8, OA 57 (.p9 3 (TT 55) (TT 56)), LL 58 3 57, FF 59 1 7, VV 60 59, MM 61 8, OA 62 (.p9 3 (TT 60) (TT 61)), LL 63 3 62, OA 64 (.call 163 [TT 58, TT 63]), OA 65 (.p9 3 (TT 52) (TT 53)), OB (.store 3 (TT 65) (TT
 64))])))) (.reg [OA 66 (.bin .add (TT 34) (II 1)), MM 34 66]))))))) (.seq (.reg [LL 67 4 7, OB (.store 4 (TT 4) (TT 67)), OA 5 (.mv (II 0))]) .ret))))⟩
theorem a6z : J2 b9G Tryz.prog Tryz.f162 = some a2Q := by kernel_rfl
theorem a6f : Tryz.prog.funcs[162]? = some Tryz.f162 := Tryz.func162
set_option maxHeartbeats 8000000
theorem b0f {b v : Rat} (h : 0 < F3 b) (hv : F3 v = 0) : Nm.C8 (G7 v) b <= 0 := by
 have h1 := a1O b
 have h2 := a1O v
 have h3 : v = 0 := by
  rcases h2 with h2 | h2 | h2
  ·omega
  ·exact h2.2
  ·omega
 have h4 : 0 < b := by
  rcases h1 with h1 | h1 | h1
  ·omega
  ·omega
  ·exact h1.2
 have h5 : ¬ 0 < Nm.C8 (G7 v) b := fun h => by
  have := (Z5 _ _).1 h
  rw [h3, show G7 0 = 0 from rfl] at this
  grind
 omega
theorem b7y (b v : Nm.Rt) (hb : Rb 1073741824 b) (hv : Rb 1073741824 v) (h : 0 < F3 (Nm.d9 b)) : FZ 200 [rc b, rc v] (rc (X0 b v)) := by
 refine kW Tryz.func200 (by cbv) (by rfl) fun w O hw => ?_
 have o1 := Z4 b (hb.mono (by decide))
 have o2 := a5z v (hv.mono (by decide))
 have o3 := X5 (Nm.ofQ (G7 (Nm.d9 v))) b (a3W ((hv.mono (m := 17179869184) (by decide)).fit (by decide))) (hb.mono (by decide))
 rw [Nm.E8] at o3
 have o4 := b1b
 have o5 := Z4 v (hv.mono (by decide))
 have o6 := a5e v b (hv.mono (by decide)) (hb.mono (by decide))
 have o7 := a2n v b (hv.mono (by decide)) (hb.mono (by decide))
 have hz := b0f (v := Nm.d9 v) h
 have hs := a1O (Nm.d9 v)
 unfold X0 a0X
 generalize Nm.C8 (G7 (Nm.d9 v)) (Nm.d9 b) = c at *
 generalize F3 (Nm.d9 b) = s1 at *
 generalize F3 (Nm.d9 v) = s2 at *
 unfold rq at *
 generalize Nm.ofQ (G7 (Nm.d9 v)) = av at *
 generalize Nm.ofQ (Nm.d9 v - Nm.d9 b) = d at *
 generalize Nm.ofQ (Nm.d9 v + Nm.d9 b) = e at *
 generalize Nm.ofQ 0 = z at *
 simp only [j6]
 simp only [rc, sb, ints] at *
 (repeat first | refine uA ?_ | (refine uK ?_ ?_; focus first | omega | (intros; simp_all <;> omega)) | simp (disch := omega) only [go_sem, Nat.reduceBEq, Nat.reduceAdd, ww] | (refine uD o1 ?_ ?_ ?_; exact tz hw; exact rfl) | (refine uD o2 ?_ ?_ ?_; exact tz hw; exact rfl) | (refine uD o3 ?_ ?_ ?_; exact tz hw; exact rfl))
 refine S.cond rfl (fun hc => ?_) (fun hc => ?_)
 ·rw [if_pos (by simp only [c2d, c1v] at hc; omega)]
  (repeat first | refine uA ?_ | (refine uK ?_ ?_; focus first | omega | (intros; simp_all <;> omega)) | simp (disch := omega) only [go_sem, Nat.reduceBEq, Nat.reduceAdd, ww] | (refine uD o4 ?_ ?_ ?_; exact tz hw; exact rfl))
  (refine S.done ?_; simp only [q8, l9, go_sem, Nat.reduceBEq, Nat.reduceAdd, Nat.reduceLeDiff, Int.reduceToNat, Int.reducePow]; (repeat (refine ⟨?_, ?_⟩; focus first | trivial | omega | simp)); exact j3.out rfl (Imp.refl rfl) rfl)
 have hc1 : ¬ c <= 0 := by simp only [c1J, c1A] at hc; omega
 rw [if_neg hc1]
 (repeat first | refine uA ?_ | (refine uK ?_ ?_; focus first | omega | (intros; simp_all <;> omega)) | simp (disch := omega) only [go_sem, Nat.reduceBEq, Nat.reduceAdd, ww] | (refine uD o5 ?_ ?_ ?_; exact tz hw; exact rfl))
 refine S.cond rfl (fun hc => ?_) (fun hc => ?_)
 ·rw [if_neg (by simp only [c1v] at hc; omega)]
  (repeat first | refine uA ?_ | (refine uK ?_ ?_; focus first | omega | (intros; simp_all <;> omega)) | simp (disch := omega) only [go_sem, Nat.reduceBEq, Nat.reduceAdd, ww] | (refine uD o6 ?_ ?_ ?_; exact tz hw; exact rfl))
  (refine S.done ?_; simp only [q8, l9, go_sem, Nat.reduceBEq, Nat.reduceAdd, Nat.reduceLeDiff, Int.reduceToNat, Int.reducePow]; (repeat (refine ⟨?_, ?_⟩; focus first | trivial | omega | simp)); exact j3.out rfl (Imp.refl rfl) rfl)
 ·rw [if_pos (by simp only [c1A] at hc; omega)]
  (repeat first | refine uA ?_ | (refine uK ?_ ?_; focus first | omega | (intros; simp_all <;> omega)) | simp (disch := omega) only [go_sem, Nat.reduceBEq, Nat.reduceAdd, ww] | (refine uD o7 ?_ ?_ ?_; exact tz hw; exact rfl))
  (refine S.done ?_; simp only [q8, l9, go_sem, Nat.reduceBEq, Nat.reduceAdd, Nat.reduceLeDiff, Int.reduceToNat, Int.reducePow]; (repeat (refine ⟨?_, ?_⟩; focus first | trivial | omega | simp)); exact j3.out rfl (Imp.refl rfl) rfl)
theorem b8L (a : Am) (q v : List Nm.Rt) (hl : Ab 1073741824 a) (ha : J6 a = 0) (hq : q.length = a.links.length) (hv : v.length = a.links.length) : FZ 199 [a.c, rts q, rts v] (ints 0) := by
 refine kW Tryz.func199 (by cbv) (by rfl) fun w O hw => ?_
 have h := b2M a hl
 rw [ha] at h
 have hn := hl.2.2.1
 obtain ⟨name, ⟨x, y, half, t⟩, links⟩ := a
 simp only at hq hv hn
 simp only [j6]
 simp only [Am.c, Am.enc, lks, rts, sb, ints] at *
 (repeat first | refine uA ?_ | (refine uK ?_ ?_; focus first | omega | (intros; simp_all <;> omega)) | simp (disch := omega) only [go_sem, Nat.reduceBEq, Nat.reduceAdd, ww] | (refine uD h ?_ ?_ ?_; exact tz hw; exact rfl))
 refine S.cond rfl (fun hc => by simp at hc) (fun hc => ?_)
 (repeat first | refine uA ?_ | (refine uK ?_ ?_; focus first | omega | (intros; simp_all <;> omega)) | simp (disch := omega) only [go_sem, Nat.reduceBEq, Nat.reduceAdd, ww, c1o])
 refine S.cond rfl (fun hc => by simp only [c2d, Bool.not_eq_true', c1A] at hc; omega) (fun hc => ?_)
 (repeat first | refine uA ?_ | (refine uK ?_ ?_; focus first | omega | (intros; simp_all <;> omega)) | simp (disch := omega) only [go_sem, Nat.reduceBEq, Nat.reduceAdd, ww])
 exact S.done (j3.out rfl (Imp.refl rfl) rfl)
theorem a7c {a : Am} {x : Ast} {i : Nat} {l : Lk} {q v : Nm.Rt} (h1 : a.links[i]? = some l) (h2 : x.v[i]? = some v) (h3 : x.q[i]? = some q) : (Y3 a x)[i]? = some (X0 l.brake v) /\ (a1t a x)[i]? = some (a0X q (X0 l.brake v)) := by
 have h4 : (Y3 a x)[i]? = some (X0 l.brake v) := by
  unfold Y3
  rw [c1Z, H6 h1 h2]; rfl
 refine ⟨h4, ?_⟩
 unfold a1t
 rw [c1Z, H6 h3 h4]; rfl
theorem a9F {a : Am} {x : Ast} (h1 : x.q.length = a.links.length) (h2 : x.v.length = a.links.length) : (Y3 a x).length = a.links.length /\ (a1t a x).length = a.links.length := by
 unfold a1t Y3
 simp only [c1o, List.length_zip]; omega
theorem a7a {α : Type} {l m : List α} {i : Nat} {y : α} (f : α -> List C) (hl : l.length = m.length) (hy : l[i]? = some y) : ((l.take i ++ m.drop i).map f).set i (f y) = (l.take (i + 1) ++ m.drop (i + 1)).map f := by
 rw [<- List.map_set, b9a hl hy]
theorem b8Z {α : Type} {l m : List α} {i : Nat} {y : α} (hl : l.length = m.length) (hy : l[i]? = some y) : (l.take (i + 1) ++ m.drop (i + 1))[i]? = some y := by
 obtain ⟨hi, rfl⟩ := c1r.1 hy
 rw [c1D (by rw [c1y]; omega), List.getElem?_take, if_pos (by omega), c1n hi]
theorem b8C {k : Nat} {b v : Nm.Rt} (hk : 8 <= k) (hb : Rb k b) (hv : Rb k v) : Rb (k + k + 1) (X0 b v) := by
 unfold X0
 split
 ·exact J4.mono (by omega)
 split
 ·exact R6 (hv.fit (by omega)) (hb.fit (by omega))
 ·exact M9 (hv.fit (by omega)) (hb.fit (by omega))
theorem b8Q (a : Am) (x : Ast) (hl : Ab 1073741824 a) (hx : Asb 1073741824 x) (ha : J6 a = 0) (hq : x.q.length = a.links.length) (hv : x.v.length = a.links.length) : FZ 162 [a.c, x.c] (.tup [(Ast.mk (a1t a x) (Y3 a x) x.power x.holds).c, ints 0]) := by
 refine Y0.of (eff := b9G) a6f a6z (by exact c1E rfl) fun w O hw => ?_
 have h := b8L a x.q x.v hl ha hq hv
 have hbr := fun l hl => a5i ((Q9 ha).2 l hl)
 have hbg := @a7c a x
 obtain ⟨hVl, hQl⟩ := a9F hq hv
 have c1 := a3V (x.q.map rcs) (by rw [c1o]; exact hx.1.1)
 have c2 := a3V (x.v.map rcs) (by rw [c1o]; exact hx.2.1)
 generalize Y3 a x = V at *
 generalize a1t a x = Q at *
 obtain ⟨hqn, hqb⟩ := hx.1
 obtain ⟨hvn, hvb⟩ := hx.2
 obtain ⟨name, ⟨bx, by', half, t⟩, links⟩ := a
 obtain ⟨q, v, power, holds⟩ := x
 obtain ⟨b0, ⟨b1, b2, b3⟩, hn, hb⟩ := hl
 simp only at hq hv hn hb hbr hqn hqb hvn hvb hVl hQl hbg h c1 c2 ⊢
 simp only [a2Q, j6, TT, II, OA, OB, OC, MM, LL, VV, FF, MG, LG, VG, FG]
 simp only [Am.c, Am.enc, Ast.c, Ast.enc, lks, rts, sb, ints] at h c1 c2 ⊢
 (repeat first | refine uA ?_ | (refine uK ?_ ?_; focus first | omega | (intros; simp_all <;> omega)) | simp (disch := omega) only [go_sem, Nat.reduceBEq, Nat.reduceAdd, ww] | (refine uD h ?_ ?_ ?_; exact tz hw; exact rfl))
 refine S.cond rfl (fun hc => by simp at hc) (fun hc => ?_)
 (repeat first | refine uI ?_ | (refine uK ?_ ?_; focus first | omega | (intros; simp_all <;> omega)) | simp (disch := omega) only [go_sem, Nat.reduceBEq, Nat.reduceAdd, ww])
 refine S.F4 [.gone, .box 81 [.sl 3 (q.map rcs), .sl 3 (v.map rcs), .v (.bool power), .v (.int .i64 holds)]] (by simp [Eng.F5, Eng.P8]) ?_
 (repeat first | refine uA ?_ | (refine uK ?_ ?_; focus first | omega | (intros; simp_all <;> omega)) | simp (disch := omega) only [go_sem, Nat.reduceBEq, Nat.reduceAdd, ww, F5, c1o] | refine l8.t (FNew.t c1 rfl) ?_ | refine l8.t (FNew.t c2 rfl) ?_)
 refine S.loop (X := Nat) (fun i => ⟨[(3, .bp 1 0), (4, .bp 2 0), (7, .bp 5 0), (32, lks links), (33, ints links.length), (34, ints i)], [.gone, .box 81 [.sl 3 (q.map rcs), .sl 3 (v.map rcs), .v (.bool power), .v (.int .i64 holds)], .box 81 [.v (.slice none 0 0), .v (.slice none 0 0), .v (.bool false), .v (.int .i64 0)], .row 28 3 ((Q.take i ++ q.drop i).map rcs), .row 28 3 ((V.take i ++ v.drop i).map rcs), .box 81 [.rv 3, .rv 4, .v (.bool power), .v (.int .i64 holds)]]⟩) (fun i => i <= links.length) (fun i => links.length - i) 0 (c1u _) (by (repeat first | refine uA ?_ | (refine ⟨?_, ?_⟩; focus first | rfl | simp [slot]) | rfl | simp)) ?_
 intro i hi
 simp only [lks, ints]
 (repeat first | refine uA ?_ | (refine uK ?_ ?_; focus first | omega | (intros; simp_all <;> omega)) | simp (disch := omega) only [go_sem, Nat.reduceBEq, Nat.reduceAdd, ww])
 (refine uJ rfl (fun hc => ?_) fun hc => ?_)
 ·have hi' : i < links.length := by omega
  have hgl := c1n hi'
  have hgq := c1n (show i < q.length by omega)
  have hgv := c1n (show i < v.length by omega)
  generalize links[i] = l at hgl
  generalize q[i]'_ = qi at hgq
  generalize v[i]'_ = vi at hgv
  obtain ⟨g1, g2⟩ := hbg hgl hgv hgq
  have bl := hb l (c1q hgl)
  have bv := hvb vi (c1q hgv)
  have bq := hqb qi (c1q hgq)
  have o1 := b7y l.brake vi bl.2.2.2.2.1 bv (hbr l (c1q hgl))
  have o2 := a2n qi (X0 l.brake vi) (bq.mono (by decide)) ((b8C (by decide) bl.2.2.2.2.1 bv).mono (by decide))
  have s1 := a7a rcs (by omega) g1 (m := v)
  have s2 := a7a rcs (by omega) g2 (m := q)
  have s3 := b8Z (by omega) g1 (m := v)
  have m1 := a5b (l := V) (m := v) (i := i) (by omega) (by omega)
  have m2 := a5b (l := Q) (m := q) (i := i) (by omega) (by omega)
  have m3 := a5b (l := V) (m := v) (i := i + 1) (by omega) (by omega)
  unfold rq at o2
  unfold a0X at s2
  generalize Nm.ofQ (Nm.d9 qi + Nm.d9 (X0 l.brake vi)) = z at *
  generalize X0 l.brake vi = y at *
  generalize V.take i ++ v.drop i = V0 at *
  generalize hV1 : V.take (i + 1) ++ v.drop (i + 1) = V1 at *
  generalize hQ1 : Q.take (i + 1) ++ q.drop (i + 1) = Q1 at *
  generalize Q.take i ++ q.drop i = Q0 at *
  have e1 : ∃ u, V0[i]? = some u := ⟨_, c1n (show i < V0.length by omega)⟩
  have e2 : ∃ u, Q0[i]? = some u := ⟨_, c1n (show i < Q0.length by omega)⟩
  obtain ⟨u1, e1⟩ := e1
  obtain ⟨u2, e2⟩ := e2
  simp only [rc, rcs, sb] at o1 o2 s1 s2
  (repeat first | refine uA ?_ | (refine uK ?_ ?_; focus first | omega | (intros; simp_all <;> omega)) | simp (disch := omega) only [go_sem, Nat.reduceBEq, Nat.reduceAdd, ww, hgl, hgq, hgv, e1, e2, s1, s2, s3, m1, m2, m3, c1p, c1o, Lk.enc, rcs, vts, sb, c1x] | (refine uD o1 ?_ ?_ ?_; exact tz hw; exact rfl) | (refine uD o2 ?_ ?_ ?_; exact tz hw; exact rfl))
  refine S.next (i + 1) (by omega) (by omega) (by simp only [hV1, hQ1]; exact (by (repeat first | refine uA ?_ | (refine ⟨?_, ?_⟩; focus first | rfl | simp [slot]) | rfl | simp)))
 ·have hi' : i = links.length := by omega
  subst hi'
  rw [show Q.take links.length ++ q.drop links.length = Q by rw [<- hq]; exact mid_end (by omega), show V.take links.length ++ v.drop links.length = V by rw [<- hv]; exact mid_end (by omega)]
  (repeat first | refine uA ?_ | (refine uK ?_ ?_; focus first | omega | (intros; simp_all <;> omega)) | simp (disch := omega) only [go_sem, Nat.reduceBEq, Nat.reduceAdd, ww])
  (refine S.done ?_; simp only [q8, l9, go_sem, Nat.reduceBEq, Nat.reduceAdd, Nat.reduceLeDiff, Int.reduceToNat, Int.reducePow]; (repeat (refine ⟨?_, ?_⟩; focus first | trivial | omega | simp)); exact j3.out rfl (Imp.tup (by (repeat' (first | exact p8.nil | exact Imp.refl rfl | exact Imp.frz rfl rfl rfl | exact Imp.P5 | refine Imp.agg ?_ | refine p8.cons ?_ ?_)))) rfl)
def a7o : L9 := ⟨63, [.cell 8 true 4, .tmp 9], .seq (.reg [OA 4 (.box 60 (TT 0)), OA 5 (.box 81 (TT 1)), OA 8 (.alloc 81 [.slice none 0 0, .slice none 0 0, .bool false, .int .i64 0]), OA 9 (.mv (II 0))]) (.seq (.seq (.reg [MM 15 3, OA 16 (.un
 .not (TT 15)), MM 17 16, LG 18 12 4 17 false, FG 19 0 5 17 false, VG 20 19 17 false, MG 21 2 17 false, OC 22 (.call 161 [TT 18, TT 20, TT 21]) 17 false, OC 23 (.un .not (TT 22)) 17 false, OA 24 (.pick (TT 17) (.const (.bool
 true)) (TT 23))]) (.cond (TT 24) (.seq (.reg [LL 26 12 4, LL 27 4 5, OA 28 (.call 162 [TT 26, TT 27]), MM 25 28, OA 29 (.ext (TT 25) 0), OA 30 (.ext (TT 25) 1), OA 10 (.alloc 81 [.slice none 0 0, .slice none 0 0, .bool false,
 .int .i64 0]), OB (.store 4 (TT 10) (TT 29)), MM 11 30]) (.seq (.F4 [.l, .l, .q, .e none false, .q, .e none true] [FF 31 3 5, VV 32 31, FF 33 2 10, OB (.store 1 (TT 33) (.const (.bool false))), FF 34 3 10, OB (.store 1 (TT 34)
 (TT 32))]) (.seq (.reg [LL 35 4 10, MM 36 11, OB (.store 4 (TT 8) (TT 35)), MM 9 36]) .ret))) .skip)) (.seq (.F4 [.q, .q, .q, .q, .q, .a, .e (some 12) true] [MM 37 2, OA 38 (.call 160 [TT 37]), FF 39 3 5, VV 40 39, OA 41
 (.build [.slice none 0 0, .slice none 0 0, .bool false, .int .i64 0] [(1, (1, TT 38)), (2, (1, .const (.bool true))), (3, (1, TT 40))]), OA 12 (.alloc 81 [.slice none 0 0, .slice none 0 0, .bool false, .int .i64 0]), OB (.store
 4 (TT 12) (TT 41))]) (.seq (.seq (.reg [FF 42 0 5, VV 43 42, OA 44 (.len false (TT 43)), OA 45 (.mv (II 0))]) (.block 0 (.loop (.seq (.reg [OA 46 (.bin .lss (TT 45) (TT 44))]) (.seq (.cond (TT 46) .skip (.exit 0)) (.seq (.block
 1 (.seq (.reg [MM 47 45, OA 48 (.p9 3 (TT 43) (TT 45)), LL 49 3 48, OA 14 (.alloc 28 [.bool false, .string ⟨#[]⟩, .string ⟨#[]⟩]), MM 13 47, OB (.store 3 (TT 14) (TT 49))]) (.F4 [.q, .q, .q, .q, .q, .q, .q, .q, .q, .e none
 true, .q, .e none true] [FF 50 0 12, VV 51 50, LL 52 3 14, MM 53 2, MM 54 13, OA 55 (.p9 3 (TT 53) (TT 54)), LL 56 3 55, OA 57 (.call 163 [TT 52, TT 56]), OA 58 (.bsl 28 3 1 [.bool false, .string ⟨#[]⟩, .string ⟨#[]⟩] [(0, TT
 57)]), OA 59 (.app 28 3 40 (TT 51) (TT 58)), FF 60 0 12, OB (.store 1 (TT 60) (TT 59))]))) (.reg [OA 61 (.bin .add (TT 45) (II 1)), MM 45 61]))))))) (.seq (.reg [LL 62 4 12, OB (.store 4 (TT 8) (TT 62)), OA 9 (.mv (II 0))])
 .ret))))⟩
theorem b3A : J2 eff Tryz.prog Tryz.f99 = some a7o := by kernel_rfl
theorem b3w : Tryz.prog.funcs[99]? = some Tryz.f99 := Tryz.func99
def a7s : L9 := ⟨65, [.tmp 6], .seq (.reg [OA 3 (.box 60 (TT 0)), OA 6 (.mv (.const (.bool false)))]) (.seq (.seq (.reg [MM 10 2, OA 11 (.len false (TT 10)), FF 12 11 3, VV 13 12, OA 14 (.len false (TT 13)), OA 15 (.bin .neq (TT 11) (TT 14))])
 (.cond (TT 15) (.seq (.reg [OA 6 (.mv (.const (.bool false)))]) .ret) .skip)) (.seq (.seq (.reg [FF 16 11 3, VV 17 16, OA 18 (.len false (TT 17)), OA 19 (.mv (II 0))]) (.block 0 (.loop (.seq (.reg [OA 20 (.bin .lss (TT 19) (TT
 18))]) (.seq (.cond (TT 20) .skip (.exit 0)) (.seq (.block 1 (.seq (.reg [MM 21 19, OA 22 (.p9 16 (TT 17) (TT 19)), LL 23 16 22, OA 8 (.alloc 127 [.bool false, .string ⟨#[]⟩, .string ⟨#[]⟩, .bool false, .string ⟨#[]⟩, .string
 ⟨#[]⟩, .bool false, .string ⟨#[]⟩, .string ⟨#[]⟩, .bool false, .string ⟨#[]⟩, .string ⟨#[]⟩, .bool false, .string ⟨#[]⟩, .string ⟨#[]⟩, .slice none 0 0]), MM 7 21, OB (.store 16 (TT 8) (TT 23))]) (.seq (.F4 [.q, .q, .q, .q,
 .q, .q, .q, .q, .q, .a, .e (some 9) true] [MM 24 1, MM 25 7, OA 26 (.p9 3 (TT 24) (TT 25)), LL 27 3 26, MM 28 2, MM 29 7, OA 30 (.p9 3 (TT 28) (TT 29)), LL 31 3 30, OA 32 (.call 163 [TT 27, TT 31]), OA 9 (.alloc 28 [.bool
 false, .string ⟨#[]⟩, .string ⟨#[]⟩]), OB (.store 3 (TT 9) (TT 32))]) (.seq (.F4 [.q, .q, .q, .q, .q, .q, .q, .q, .q, .q, .q, .q, .q, .q, .q, .q, .q, .q, .q, .q, .q, .q, .q, .q, .q, .q, .q, .q, .q, .q, .q] [MM 33 2, MM 34 7,
 OA 35 (.p9 3 (TT 33) (TT 34)), LL 36 3 35, OA 37 (.call 45 [TT 36]), OA 38 (.un .not (TT 37)), MM 39 38, MG 40 2 39 false, MG 41 7 39 false, OC 42 (.p9 3 (TT 40) (TT 41)) 39 false, LG 43 3 42 39 false, OC 44 (.call 30 [TT
 43]) 39 false, FG 45 9 8 39 false, LG 46 3 45 39 false, OC 47 (.call 29 [TT 44, TT 46]) 39 false, OC 48 (.bin .gtr (TT 47) (II 0)) 39 false, OA 49 (.pick (TT 39) (.const (.bool true)) (TT 48)), MM 50 49, LG 51 3 9 50 false, FG
 52 3 8 50 false, LG 53 3 52 50 false, OC 54 (.call 29 [TT 51, TT 53]) 50 false, OC 55 (.bin .lss (TT 54) (II 0)) 50 false, OA 56 (.pick (TT 50) (.const (.bool true)) (TT 55)), MM 57 56, LG 58 3 9 57 false, FG 59 6 8 57 false, LG
 60 3 59 57 false, OC 61 (.call 29 [TT 58, TT 60]) 57 false, OC 62 (.bin .gtr (TT 61) (II 0)) 57 false, OA 63 (.pick (TT 57) (.const (.bool true)) (TT 62))]) (.cond (TT 63) (.seq (.reg [OA 6 (.mv (.const (.bool false)))]) .ret)
 .skip))))) (.reg [OA 64 (.bin .add (TT 19) (II 1)), MM 19 64]))))))) (.seq (.reg [OA 6 (.mv (.const (.bool true)))]) .ret)))⟩
theorem b3f : J2 eff Tryz.prog Tryz.f161 = some a7s := by kernel_rfl
theorem b3x : Tryz.prog.funcs[161]? = some Tryz.f161 := Tryz.func161
theorem b4o {α β γ : Type} {f : α × β × γ -> Bool} {g : γ -> Bool} : ∀ (l : List α) (q : List β) (u : List γ), q.length = l.length -> u.length = l.length -> (u.all g && (l.zip (q.zip u)).all f) = (l.zip (q.zip u)).all fun x => g x.2.2 && f x
 | [], [], [], _, _ => rfl
 | a :: l, b :: q, c :: u, h1, h2 => by
  have ih := b4o (f := f) (g := g) l q u (by simpa using h1) (by simpa using h2)
  simp only [List.zip_cons_cons, List.all_cons, <- ih]
  cases g c <;> cases u.all g <;> simp
theorem b2Q {α : Type} {f : α -> Bool} {l : List α} {i : Nat} {x : α} (h : l[i]? = some x) : (l.drop i).all f = (f x && (l.drop (i + 1)).all f) := by
 rw [drop_at h, List.all_cons]
theorem b7P (p q : Rat) : Nm.C8 p q < 0 <-> 0 < Nm.C8 q p := by rw [a3u, Z5]
def b2S (x : Lk × Nm.Rt × Nm.Rt) : Bool := I7 x.2.2 && b5m x
theorem c0P (a : Am) (q u : List Nm.Rt) (hl : Ab 1073741824 a) (hq : Rbs 1073741824 q) (hu : Rbs 1073741824 u) (hql : q.length = a.links.length) : FZ 161 [a.c, rts q, rts u] (.v (.bool (a5I a q u))) := by
  refine kW b3x b3f (by rfl) fun w O hw => ?_
  obtain ⟨hqn, hqb⟩ := hq
  obtain ⟨hun, hub⟩ := hu
  unfold a5I
  obtain ⟨name, ⟨bx, by', half, t⟩, links⟩ := a
  obtain ⟨b0, ⟨b1, b2, b3⟩, hn, hb⟩ := hl
  simp only at b0 b1 b2 b3 hn hb hql ⊢
  simp only [a7s, j6, TT, II, OA, OB, OC, MM, LL, VV, FF, MG, LG, VG, FG]
  simp only [Am.c, Am.enc, lks, rts, sb, ints]
  (repeat first | refine uA ?_ | (refine uK ?_ ?_; focus first | omega | (intros; simp_all <;> omega)) | simp (disch := omega) only [go_sem, Nat.reduceBEq, Nat.reduceAdd, ww, c1o])
  refine S.cond rfl (fun hc => ?_) (fun hc => ?_)
  · rw [show decide (u.length = links.length) = false from decide_eq_false (by simp only [Bool.not_eq_true', c1A] at hc; omega), Bool.false_and]
    (repeat first | refine uA ?_ | (refine uK ?_ ?_; focus first | omega | (intros; simp_all <;> omega)) | simp (disch := omega) only [go_sem, Nat.reduceBEq, Nat.reduceAdd, ww])
    exact S.done (j3.out rfl (Imp.refl rfl) rfl)
  have hul : u.length = links.length := by simp only [Bool.not_eq_false', c1v] at hc; omega
  rw [decide_eq_true hul, Bool.true_and, b4o links q u hql hul, show (fun x : Lk × Nm.Rt × Nm.Rt => I7 x.2.2 && b5m x) = b2S from rfl]
  (repeat first | refine uA ?_ | (refine uK ?_ ?_; focus first | omega | (intros; simp_all <;> omega)) | simp (disch := omega) only [go_sem, Nat.reduceBEq, Nat.reduceAdd, ww, c1o])
  refine S.loop (X := Nat) (fun i => ⟨[(1, rts q), (2, rts u), (17, lks links), (18, ints links.length), (19, ints i)], []⟩) (fun i => i <= links.length /\ (links.zip (q.zip u)).all b2S = ((links.zip (q.zip u)).drop i).all b2S) (fun i => links.length - i) 0 ⟨c1u _, rfl⟩ (by (repeat first | refine uA ?_ | (refine ⟨?_, ?_⟩; focus first | rfl | simp [slot]) | rfl | simp)) ?_
  rintro i ⟨hi, hg⟩
  simp only [rts, lks, ints]
  (repeat first | refine uA ?_ | (refine uK ?_ ?_; focus first | omega | (intros; simp_all <;> omega)) | simp (disch := omega) only [go_sem, Nat.reduceBEq, Nat.reduceAdd, ww])
  (refine uJ rfl (fun hc => ?_) fun hc => ?_)
  · have hi' : i < links.length := by omega
    have hgl := c1n hi'
    have hgq := c1n (show i < q.length by omega)
    have hgu := c1n (show i < u.length by omega)
    generalize links[i] = l at hgl
    generalize q[i]'_ = qi at hgq
    generalize u[i]'_ = ui at hgu
    have hd := b2Q (f := b2S) (H6 hgl (H6 hgq hgu))
    have bl := hb l (c1q hgl)
    have bq := (hqb qi (c1q hgq)).mono (m := 17179869184) (by decide)
    have bu := (hub ui (c1q hgu)).mono (m := 17179869184) (by decide)
    have bz := (R6 ((hqb qi (c1q hgq)).fit (by decide)) ((hub ui (c1q hgu)).fit (by decide))).mono (m := 17179869184) (by decide)
    have o1 := a2n qi ui bq bu
    have o2 := a1b ui (bu.mono (by decide))
    have o3 := a5z ui bu
    have o4 := X5 (Nm.ofQ (G7 (Nm.d9 ui))) l.speed (a3W (bu.fit (by decide))) (bl.2.2.2.1.mono (by decide))
    have o5 := X5 (Nm.ofQ (Nm.d9 qi + Nm.d9 ui)) l.low bz (bl.2.1.mono (by decide))
    have o6 := X5 (Nm.ofQ (Nm.d9 qi + Nm.d9 ui)) l.high bz (bl.2.2.1.mono (by decide))
    have hsw := b7P (Nm.d9 qi + Nm.d9 ui) (Nm.d9 l.low)
    rw [Nm.E8] at o4 o5 o6
    have hv : b2S (l, qi, ui) = (decide ui.G5 && !(decide (0 < Nm.C8 (G7 (Nm.d9 ui)) (Nm.d9 l.speed)) || decide (0 < Nm.C8 (Nm.d9 l.low) (Nm.d9 qi + Nm.d9 ui)) || decide (0 < Nm.C8 (Nm.d9 qi + Nm.d9 ui) (Nm.d9 l.high)))) := rfl
    rw [hv] at hd
    clear hv
    generalize decide ui.G5 = g at *
    generalize Nm.C8 (G7 (Nm.d9 ui)) (Nm.d9 l.speed) = c1 at *
    generalize Nm.C8 (Nm.d9 l.low) (Nm.d9 qi + Nm.d9 ui) = c2 at *
    generalize Nm.C8 (Nm.d9 qi + Nm.d9 ui) (Nm.d9 l.low) = c3 at *
    generalize Nm.C8 (Nm.d9 qi + Nm.d9 ui) (Nm.d9 l.high) = c4 at *
    unfold rq at o1 o3
    generalize Nm.ofQ (Nm.d9 qi + Nm.d9 ui) = z at *
    generalize Nm.ofQ (G7 (Nm.d9 ui)) = au at *
    have hqi : (i : Int) < q.length := by omega
    have hui : (i : Int) < u.length := by omega
    simp only [rc, sb, ints] at o1 o2 o3 o4 o5 o6
    (repeat first | refine uG o1 ?_ | refine uG o2 ?_ | refine uG o3 ?_ | refine uG o4 ?_ | refine uG o5 ?_ | refine uG o6 ?_ | refine uA ?_ | (refine uK ?_ ?_; focus first | omega | (intros; simp_all <;> omega)) | simp (disch := omega) only [go_sem, Nat.reduceBEq, Nat.reduceAdd, ww, hgl, hgq, hgu, c1p, c1o, Lk.enc, rcs, vts, sb, c1x] | (refine uD o1 ?_ ?_ ?_; exact tz hw; exact rfl) | (refine uD o2 ?_ ?_ ?_; exact tz hw; exact rfl) | (refine uD o3 ?_ ?_ ?_; exact tz hw; exact rfl) | (refine uD o4 ?_ ?_ ?_; exact tz hw; exact rfl) | (refine uD o5 ?_ ?_ ?_; exact tz hw; exact rfl) | (refine uD o6 ?_ ?_ ?_; exact tz hw; exact rfl))
    refine S.cond rfl (fun hc2 => ?_) (fun hc2 => ?_)
    · rw [hg, hd, show (g && !(decide (0 < c1) || decide (0 < c2) || decide (0 < c4))) = false by
        cases g
        · rfl
        · simp only [Bool.not_true, Bool.false_or, c2d, c1v] at hc2
          rw [show (decide (0 < c1) || decide (0 < c2) || decide (0 < c4)) = true by simp only [c2d, c1v]; omega]
          rfl, Bool.false_and]
      (repeat first | refine uA ?_ | (refine uK ?_ ?_; focus first | omega | (intros; simp_all <;> omega)) | simp (disch := omega) only [go_sem, Nat.reduceBEq, Nat.reduceAdd, ww])
      exact S.done (j3.out rfl (Imp.refl rfl) rfl)
    · (repeat first | refine uA ?_ | (refine uK ?_ ?_; focus first | omega | (intros; simp_all <;> omega)) | simp (disch := omega) only [go_sem, Nat.reduceBEq, Nat.reduceAdd, ww])
      refine S.next (i + 1) ⟨by omega, ?_⟩ (by omega) (by (repeat first | refine uA ?_ | (refine ⟨?_, ?_⟩; focus first | rfl | simp [slot]) | rfl | simp))
      rw [hg, hd, show (g && !(decide (0 < c1) || decide (0 < c2) || decide (0 < c4))) = true by
        cases g
        · simp at hc2
        · simp only [Bool.not_true, Bool.false_or, c1J, c1A] at hc2
          rw [show (decide (0 < c1) || decide (0 < c2) || decide (0 < c4)) = false by simp only [c1J, c1A]; omega]
          rfl, Bool.true_and]
  · rw [hg, List.drop_eq_nil_of_le (by simp only [List.length_zip]; omega), List.all_nil]
    (repeat first | refine uA ?_ | (refine uK ?_ ?_; focus first | omega | (intros; simp_all <;> omega)) | simp (disch := omega) only [go_sem, Nat.reduceBEq, Nat.reduceAdd, ww])
    exact S.done (j3.out rfl (Imp.refl rfl) rfl)
theorem b6h {x : Ast} {u : List Nm.Rt} {i : Nat} {q v : Nm.Rt} (h1 : x.q[i]? = some q) (h2 : u[i]? = some v) : (mvQ x u)[i]? = some (a0X q v) := by
 unfold mvQ
 rw [c1Z, H6 h1 h2]; rfl
theorem take_at {α : Type} {l : List α} {i : Nat} {x : α} (h : l[i]? = some x) : l.take (i + 1) = l.take i ++ [x] := by
 obtain ⟨hi, rfl⟩ := c1r.1 h
 exact c2e hi
theorem c0m (a : Am) (x : Ast) (u : List Nm.Rt) (p : Bool) (hl : Ab 1073741824 a) (hx : Asb 1073741824 x) (hu : Rbs 1073741824 u) (ha : J6 a = 0) (hq : x.q.length = a.links.length) (hv : x.v.length = a.links.length) : FZ 99 [a.c, x.c, rts u, .v (.bool p)] (.tup [(Y4 a x u p).c, ints 0]) := by
 refine kW b3w b3A (by rfl) fun w O hw => ?_
 have h1 := b8Q a x hl hx ha hq hv
 have h2 := c0P a x.q u hl hx.1 hu hq
 have h3 : a5I a x.q u = true -> u.length = a.links.length := fun h => by unfold a5I at h; rw [c1t] at h; exact of_decide_eq_true h.1
 have h4 := @b6h x u
 have h5 : (mvQ x u).length = min x.q.length u.length := by unfold mvQ; rw [c1o, List.length_zip]
 have c1 := (a3V (u.map rcs) (by rw [c1o]; exact hu.1)).spec
 obtain ⟨hqn, hqb⟩ := hx.1
 obtain ⟨hun, hub⟩ := hu
 unfold Y4 mvA a8g
 generalize a1t a x = BQ at *
 generalize Y3 a x = BV at *
 generalize mvQ x u = M at *
 generalize a5I a x.q u = m at *
 obtain ⟨name, ⟨bx, by', half, t⟩, links⟩ := a
 obtain ⟨q, v, power, holds⟩ := x
 simp only at h1 h2 h3 h4 h5 hq hv hqn hqb ⊢
 have hn := hl.2.2.1
 simp only at hn
 simp only [a7o, j6, TT, II, OA, OB, OC, MM, LL, VV, FF, MG, LG, VG, FG]
 simp only [Am.c, Am.enc, Ast.c, Ast.enc, lks, rts, sb, ints] at h1 h2 c1 ⊢
 by_cases hm : (p && m) = true
 ·rw [if_pos hm]
  rw [c1t] at hm
  obtain ⟨rfl, rfl⟩ := hm
  have h3 := h3 rfl
  (repeat first | refine uG h2 ?_ | refine uA ?_ | (refine uK ?_ ?_; focus first | omega | (intros; simp_all <;> omega)) | simp (disch := omega) only [go_sem, Nat.reduceBEq, Nat.reduceAdd, ww] | (refine uD h2 ?_ ?_ ?_; exact tz hw; exact rfl))
  refine S.cond rfl (fun hc => by simp at hc) (fun hc => ?_)
  (repeat first | refine uF c1 ?_ | refine uA ?_ | (refine uK ?_ ?_; focus first | omega | (intros; simp_all <;> omega)) | simp (disch := omega) only [go_sem, Nat.reduceBEq, Nat.reduceAdd, ww, c1o] | (refine uB c1 ?_ ?_; exact rfl))
  refine S.loop (X := Nat) (fun i => ⟨[(2, rts u), (8, .bp 2 0), (12, .bp 3 0), (43, rts q), (44, ints q.length), (45, ints i)], [.gone, .gone, .box 81 [.v (.slice none 0 0), .v (.slice none 0 0), .v (.bool false), .v (.int .i64 0)], .box 81 [.rv 4, rts u, .v (.bool true), ints holds], .row 28 3 ((M.take i).map rcs)]⟩) (fun i => i <= q.length) (fun i => q.length - i) 0 (c1u _) (Ent.trans (Ent.a1E 3 0 28 3 rfl rfl rfl) (by (repeat first | refine uA ?_ | (refine ⟨?_, ?_⟩; focus first | rfl | simp [slot]) | rfl | simp))) ?_
  intro i hi
  simp only [rts, ints]
  (repeat first | refine uA ?_ | (refine uK ?_ ?_; focus first | omega | (intros; simp_all <;> omega)) | simp (disch := omega) only [go_sem, Nat.reduceBEq, Nat.reduceAdd, ww])
  (refine uJ rfl (fun hc => ?_) fun hc => ?_)
  ·have hgq := c1n (show i < q.length by omega)
   have hgu := c1n (show i < u.length by omega)
   generalize q[i]'_ = qi at hgq
   generalize u[i]'_ = ui at hgu
   have hap := take_at (h4 hgq hgu)
   have htl : (M.take i).length = i := by rw [c1y]; omega
   have o1 := a2n qi ui ((hqb qi (c1q hgq)).mono (by decide)) ((hub ui (c1q hgu)).mono (by decide))
   unfold rq at o1
   unfold a0X at hap
   generalize Nm.ofQ (Nm.d9 qi + Nm.d9 ui) = z at *
   have hui : (i : Int) < u.length := by omega
   simp only [rc, sb] at o1
   (repeat first | refine uG o1 ?_ | refine uA ?_ | (refine uK ?_ ?_; focus first | omega | (intros; simp_all <;> omega)) | simp (disch := omega) only [go_sem, Nat.reduceBEq, Nat.reduceAdd, ww, hgq, hgu, c1p, c1o, rcs, sb, htl, c1x] | (refine uD o1 ?_ ?_ ?_; exact tz hw; exact rfl))
   refine S.next (i + 1) (by omega) (by omega) (by simp only [hap, c2f, c1F, c2b, rcs, sb]; exact (by (repeat first | refine uA ?_ | (refine ⟨?_, ?_⟩; focus first | rfl | simp [slot]) | rfl | simp)))
  ·have hi' : i = q.length := by omega
   subst hi'
   rw [c1H (by omega)]
   (repeat first | refine uA ?_ | (refine uK ?_ ?_; focus first | omega | (intros; simp_all <;> omega)) | simp (disch := omega) only [go_sem, Nat.reduceBEq, Nat.reduceAdd, ww])
   (refine S.done ?_; simp only [q8, l9, go_sem, Nat.reduceBEq, Nat.reduceAdd, Nat.reduceLeDiff, Int.reduceToNat, Int.reducePow]; (repeat (refine ⟨?_, ?_⟩; focus first | trivial | omega | simp)); exact j3.out rfl (Imp.tup (by (repeat' (first | exact p8.nil | exact Imp.refl rfl | exact Imp.frz rfl rfl rfl | exact Imp.P5 | refine Imp.agg ?_ | refine p8.cons ?_ ?_)))) rfl)
 ·rw [if_neg hm]
  cases p
  ·(repeat first | refine uG h2 ?_ | refine uA ?_ | (refine uK ?_ ?_; focus first | omega | (intros; simp_all <;> omega)) | simp (disch := omega) only [go_sem, Nat.reduceBEq, Nat.reduceAdd, ww] | (refine uD h2 ?_ ?_ ?_; exact tz hw; exact rfl))
   refine S.cond rfl (fun hc => ?_) (fun hc => by simp at hc)
   (repeat first | refine uG h1 ?_ | refine uI ?_ | (refine uK ?_ ?_; focus first | omega | (intros; simp_all <;> omega)) | simp (disch := omega) only [go_sem, Nat.reduceBEq, Nat.reduceAdd, ww] | (refine uD h1 ?_ ?_ ?_; exact tz hw; exact rfl))
   refine S.F4 [.gone, .box 81 [.sl 3 (q.map rcs), .sl 3 (v.map rcs), .v (.bool power), .v (.int .i64 holds)]] (by simp [Eng.F5, Eng.P8]) ?_
   (repeat first | refine uA ?_ | (refine uK ?_ ?_; focus first | omega | (intros; simp_all <;> omega)) | simp (disch := omega) only [go_sem, Nat.reduceBEq, Nat.reduceAdd, ww])
   (refine S.done ?_; simp only [q8, l9, go_sem, Nat.reduceBEq, Nat.reduceAdd, Nat.reduceLeDiff, Int.reduceToNat, Int.reducePow]; (repeat (refine ⟨?_, ?_⟩; focus first | trivial | omega | simp)); exact j3.out rfl (Imp.tup (by (repeat' (first | exact p8.nil | exact Imp.refl rfl | exact Imp.frz rfl rfl rfl | exact Imp.P5 | refine Imp.agg ?_ | refine p8.cons ?_ ?_)))) rfl)
  ·have hm : m = false := by simpa using hm
   subst hm
   (repeat first | refine uG h2 ?_ | refine uA ?_ | (refine uK ?_ ?_; focus first | omega | (intros; simp_all <;> omega)) | simp (disch := omega) only [go_sem, Nat.reduceBEq, Nat.reduceAdd, ww] | (refine uD h2 ?_ ?_ ?_; exact tz hw; exact rfl))
   refine S.cond rfl (fun hc => ?_) (fun hc => by simp at hc)
   (repeat first | refine uG h1 ?_ | refine uI ?_ | (refine uK ?_ ?_; focus first | omega | (intros; simp_all <;> omega)) | simp (disch := omega) only [go_sem, Nat.reduceBEq, Nat.reduceAdd, ww] | (refine uD h1 ?_ ?_ ?_; exact tz hw; exact rfl))
   refine S.F4 [.gone, .box 81 [.sl 3 (q.map rcs), .sl 3 (v.map rcs), .v (.bool power), .v (.int .i64 holds)]] (by simp [Eng.F5, Eng.P8]) ?_
   (repeat first | refine uA ?_ | (refine uK ?_ ?_; focus first | omega | (intros; simp_all <;> omega)) | simp (disch := omega) only [go_sem, Nat.reduceBEq, Nat.reduceAdd, ww])
   (refine S.done ?_; simp only [q8, l9, go_sem, Nat.reduceBEq, Nat.reduceAdd, Nat.reduceLeDiff, Int.reduceToNat, Int.reducePow]; (repeat (refine ⟨?_, ?_⟩; focus first | trivial | omega | simp)); exact j3.out rfl (Imp.tup (by (repeat' (first | exact p8.nil | exact Imp.refl rfl | exact Imp.frz rfl rfl rfl | exact Imp.P5 | refine Imp.agg ?_ | refine p8.cons ?_ ?_)))) rfl)
theorem a9I (f g : Fr) (h1 : Rb 4294967296 f.x) (h2 : Rb 4294967296 f.y) (h3 : Rb 268435456 f.t) (h4 : Rb 268435456 g.x) (h5 : Rb 268435456 g.y) (h6 : Rb 268435456 g.t) : FZ 35 [f.c, g.c] (O5 f g).c := by
 refine kW Tryz.func35 (by cbv) (by rfl) fun w O hw => ?_
 have k1 := c0X f ⟨g.x, g.y⟩ h1 h2 h3 h4 h5
 have k2 := b8X f.half f.t g.half g.t (h3.mono (by decide)) (h6.mono (by decide))
 unfold O5 vq tq at *
 generalize Nm.ofQ (a9M f ⟨g.x, g.y⟩) = r1 at *
 generalize Nm.ofQ (a9C f ⟨g.x, g.y⟩) = r2 at *
 generalize a1Y f.half (u7 f.half f.t) g.half (u7 g.half g.t) = r3 at *
 obtain ⟨r3, r4⟩ := r3
 simp only at *
 generalize Nm.ofQ r4 = r5 at *
 obtain ⟨fx, fy, fh, ft⟩ := f
 obtain ⟨gx, gy, gh, gt⟩ := g
 simp only [j6]
 simp only [Fr.c, Fr.enc, Vt.c, Vt.enc, vc, tc, sb] at *
 (repeat first | refine uA ?_ | (refine uK ?_ ?_; focus first | omega | (intros; simp_all <;> omega)) | simp (disch := omega) only [go_sem, Nat.reduceBEq, Nat.reduceAdd, ww] | (refine uD k1 ?_ ?_ ?_; exact tz hw; exact rfl) | (refine uD k2 ?_ ?_ ?_; exact tz hw; exact rfl))
 (refine S.done ?_; simp only [q8, l9, go_sem, Nat.reduceBEq, Nat.reduceAdd, Nat.reduceLeDiff, Int.reduceToNat, Int.reducePow]; (repeat (refine ⟨?_, ?_⟩; focus first | trivial | omega | simp)); exact j3.out rfl (Imp.refl rfl) rfl)
theorem b9v (f : Fr) (hf : Fb 1048576 f) : FZ 36 [f.c] (a1F f).c := by
 refine kW Tryz.func36 (by cbv) (by rfl) fun w O hw => ?_
 obtain ⟨h1, h2, h3⟩ := hf
 have k1 := b9C f.half f.t (h3.mono (by decide))
 have k2 := b3N
 have k3 := b1g (Nm.ofQ 0) (Nm.ofQ 0) f.x f.y (J4.mono (by decide)) (J4.mono (by decide)) (h1.mono (by decide)) (h2.mono (by decide))
 rw [Nm.E8] at k3
 have s1 := M9 J4 (h1.fit (by decide))
 have s2 := M9 J4 (h2.fit (by decide))
 have s3 := a7d (U8 (h := f.half) h3 (by decide))
 have k4 := b4k (Nm.ofQ (0 - Nm.d9 f.x)) (Nm.ofQ (0 - Nm.d9 f.y)) (Nm.ofQ (- u7 f.half f.t)) f.half (s1.mono (by decide)) (s2.mono (by decide)) (s3.mono (by decide))
 unfold a1F
 unfold a2F at k2
 unfold vq tq at *
 generalize Nm.ofQ (Nm.d9 (Nm.ofQ (0 - Nm.d9 f.x)) * R9 f.half (u7 f.half (Nm.ofQ (- u7 f.half f.t))) - Nm.d9 (Nm.ofQ (0 - Nm.d9 f.y)) * S9 (u7 f.half (Nm.ofQ (- u7 f.half f.t)))) = r1 at *
 generalize Nm.ofQ (Nm.d9 (Nm.ofQ (0 - Nm.d9 f.x)) * S9 (u7 f.half (Nm.ofQ (- u7 f.half f.t))) + Nm.d9 (Nm.ofQ (0 - Nm.d9 f.y)) * R9 f.half (u7 f.half (Nm.ofQ (- u7 f.half f.t)))) = r2 at *
 generalize Nm.ofQ (0 - Nm.d9 f.x) = r3 at *
 generalize Nm.ofQ (0 - Nm.d9 f.y) = r4 at *
 generalize Nm.ofQ (- u7 f.half f.t) = r5 at *
 generalize Nm.ofQ 0 = z at *
 obtain ⟨fx, fy, fh, ft⟩ := f
 simp only [j6]
 simp only [Fr.c, Fr.enc, vc, tc, sb] at *
 (repeat first | refine uA ?_ | (refine uK ?_ ?_; focus first | omega | (intros; simp_all <;> omega)) | simp (disch := omega) only [go_sem, Nat.reduceBEq, Nat.reduceAdd, ww] | (refine uD k1 ?_ ?_ ?_; exact tz hw; exact rfl) | (refine uD k2 ?_ ?_ ?_; exact tz hw; exact rfl) | (refine uD k3 ?_ ?_ ?_; exact tz hw; exact rfl) | (refine uD k4 ?_ ?_ ?_; exact tz hw; exact rfl))
 (refine S.done ?_; simp only [q8, l9, go_sem, Nat.reduceBEq, Nat.reduceAdd, Nat.reduceLeDiff, Int.reduceToNat, Int.reducePow]; (repeat (refine ⟨?_, ?_⟩; focus first | trivial | omega | simp)); exact j3.out rfl (Imp.refl rfl) rfl)
theorem b8S {f : Fr} {c : Vt} {x t k : Nat} (hx : Rb x f.x) (hy : Rb x f.y) (ht : Rb t f.t) (hc1 : Rb k c.x) (hc2 : Rb k c.y) (h1 : 1 <= x) (h2 : 1 <= t) (h3 : 1 <= k) : Rb (x + 2 * (k + 4 * t + 18) + 2) (Nm.ofQ (a9M f c)) /\ Rb (x + 2 * (k + 4 * t + 18) + 2) (Nm.ofQ (a9C f c)) := by
 have g1 := a9d f.half (U8 (h := f.half) ht h2)
 have g2 := a8r (U8 (h := f.half) ht h2)
 have g3 := hc1.fit h3
 have g4 := hc2.fit h3
 unfold a9M a9C
 exact ⟨(R6 (hx.fit h1) (M9 (K4 g3 g1) (K4 g4 g2))).mono (by omega), (R6 (hy.fit h1) (R6 (K4 g3 g2) (K4 g4 g1))).mono (by omega)⟩
theorem b7f {h1 h2 : Bool} {p q : Rat} {a b : Nat} (hp : Rb a (Nm.ofQ p)) (hq : Rb b (Nm.ofQ q)) : Rb (2 * (a + b) + 16) (Nm.ofQ (a1Y h1 p h2 q).2) := by
 have kb : Rb 8 (Nm.ofQ (-1)) := ⟨Nm.F8 (by decide), Nm.F8 (by decide)⟩
 have kz : Rb (2 * (a + b) + 16) (Nm.ofQ 0) := J4.mono (by omega)
 unfold a1Y
 split
 ·exact kz
 split
 ·split
  ·exact kz
  ·rename_i h; exact (a3B h kb hq).mono (by omega)
 split
 ·split
  ·exact kz
  ·rename_i h; exact (a3B h kb hp).mono (by omega)
 split
 ·exact kz
 ·rename_i h; exact (a3B h (R6 hp hq) (M9 Z7 (K4 hp hq))).mono (by omega)
theorem b1r {f g : Fr} {x t k u : Nat} (hx : Rb x f.x) (hy : Rb x f.y) (ht : Rb t f.t) (hc1 : Rb k g.x) (hc2 : Rb k g.y) (hu : Rb u g.t) (h1 : 1 <= x) (h2 : 1 <= t) (h3 : 1 <= k) (h4 : 1 <= u) :
  Rb (x + 2 * (k + 4 * t + 18) + 2) (O5 f g).x /\ Rb (x + 2 * (k + 4 * t + 18) + 2) (O5 f g).y /\ Rb (2 * (t + u) + 16) (O5 f g).t := by
 obtain ⟨a, b⟩ := b8S (c := ⟨g.x, g.y⟩) hx hy ht hc1 hc2 h1 h2 h3
 exact ⟨a, b, b7f (U8 ht h2) (U8 hu h4)⟩
def tB : Nat -> Nat
 | 0 => 8
 | n + 1 => 2 * (2 * (tB n + 2097664) + 16 + 8) + 16
def xB : Nat -> Nat
 | 0 => 8
 | n + 1 => xB n + 2 * (8 + 4 * tB n + 18) + 2 + 2 * (8 + 4 * (2 * (tB n + 2097664) + 16) + 18) + 2
theorem b1G {i : Nat} (h : i <= 3) : 8 <= tB i /\ 8 <= xB i /\ tB i <= 176205632 /\ xB i <= 1308956300 := by
 have : i = 0 \/ i = 1 \/ i = 2 \/ i = 3 := by omega
 rcases this with rfl | rfl | rfl | rfl <;> decide
theorem b_lt {i : Nat} (h : i < 3) : 2 * (tB i + 2097664) + 16 <= 88102800 /\ xB i + 2 * (8 + 4 * tB i + 18) + 2 <= 604133846 := by
 have : i = 0 \/ i = 1 \/ i = 2 := by omega
 rcases this with rfl | rfl | rfl <;> decide
def Fx (i : Nat) (f : Fr) : Prop := Rb (xB i) f.x /\ Rb (xB i) f.y /\ Rb (tB i) f.t
theorem a6L {e : Fr} {i : Nat} {q : Nm.Rt} (he : Fx i e) (hi : i < 3) (hq : Rb 2097664 q) : Rb (xB i + 2 * (8 + 4 * tB i + 18) + 2) (O5 e (a0q q)).x /\ Rb (xB i + 2 * (8 + 4 * tB i + 18) + 2) (O5 e (a0q q)).y /\ Rb (2 * (tB i + 2097664) + 16) (O5 e (a0q q)).t := by
 have hb := b1G (show i <= 3 by omega)
 exact b1r he.1 he.2.1 he.2.2 J4 J4 (hq.fit (by decide)) (by omega) (by omega) (by omega) (by decide)
theorem b6u {e : Fr} {i : Nat} {q : Nm.Rt} {l : Lk} (he : Fx i e) (hi : i < 3) (hq : Rb 2097664 q) (hl : Rb 8 l.length) : Fx (i + 1) (O5 (O5 e (a0q q)) (a5j l)) := by
 obtain ⟨h1, h2, h3⟩ := a6L he hi hq
 exact b1r h1 h2 h3 hl J4 J4 (by omega) (by omega) (by omega) (by decide)
theorem b6t {a : Am} (h : J6 a = 0) : Fx 0 a.base /\ ∀ l ∈ a.links, Rb 8 l.length := by
 have hl := (Q9 h).2
 unfold J6 at h
 split at h
 ·cases h
 split at h
 ·cases h
 split at h
 ·cases h
 rename_i h1
 have hs : (j4 a.base.x && j4 a.base.y && j4 a.base.t) = true := by
  cases hb : (j4 a.base.x && j4 a.base.y && j4 a.base.t) with
  | true => rfl
  | false => exact absurd (.inr (.inl hb)) h1
 simp only [c1t] at hs
 refine ⟨⟨(V3 hs.1.1).mono (by decide), (V3 hs.1.2).mono (by decide), (V3 hs.2).mono (by decide)⟩, fun l hm => ?_⟩
 have := hl l hm
 unfold M7 at this
 split at this
 ·cases this
 rename_i h2
 have hs2 : (j4 l.length && j4 l.low && j4 l.high && j4 l.speed && j4 l.brake) = true := by
  cases hb : (j4 l.length && j4 l.low && j4 l.high && j4 l.speed && j4 l.brake) with
  | true => rfl
  | false => exact absurd (.inl hb) h2
 simp only [c1t] at hs2
 exact (V3 hs2.1.1.1.1).mono (by decide)
theorem b8k : ∀ (z : List (Lk × Nm.Rt)) (e : Fr) (i : Nat), Fx i e -> i + z.length <= 3 -> (∀ y ∈ z, Rb 8 y.1.length /\ Rb 2097664 y.2) -> Fx (i + z.length) (a3e e z)
 | [], e, i, he, _, _ => he
 | (l, q) :: r, e, i, he, hi, hz => by
  simp only [c1I] at hi
  have h1 := b6u (l := l) he (by omega) (hz (l, q) (by simp)).2 (hz (l, q) (by simp)).1
  have h2 := b8k r _ (i + 1) h1 (by omega) fun y hy => hz y (by simp [hy])
  simp only [a3e, c1I]
  rwa [show i + 1 + r.length = i + (r.length + 1) by omega] at h2
def a4Y : L9 := ⟨62, [.tmp 4, .tmp 5], .seq (.reg [OA 2 (.box 60 (TT 0)), OA 4 (.mv (.const (.slice none 0 0))), OA 5 (.mv (II 0))]) (.seq (.seq (.reg [LL 14 12 2, MM 15 1, OA 16 (.len false (TT 15)), OA 17 (.call 176 [TT 14, TT 16]), MM 6 17])
 (.seq (.reg [MM 18 6, OA 19 (.bin .neq (TT 18) (II 0))]) (.cond (TT 19) (.seq (.reg [MM 20 6, OA 4 (.mv (.const (.slice none 0 0))), MM 5 20]) .ret) .skip))) (.seq (.reg [FF 21 1 2, LL 22 10 21, OA 7 (.alloc 36 [.bool false,
 .string ⟨#[]⟩, .string ⟨#[]⟩, .bool false, .string ⟨#[]⟩, .string ⟨#[]⟩, .bool false, .bool false, .string ⟨#[]⟩, .string ⟨#[]⟩]), OB (.store 10 (TT 7) (TT 22))]) (.seq (.reg [OA 23 (.call 157 [II 0]), OA 24 (.call 157 [II 0]),
 OA 25 (.build [.bool false, .string ⟨#[]⟩, .string ⟨#[]⟩, .bool false, .string ⟨#[]⟩, .string ⟨#[]⟩] [(0, (3, TT 23)), (3, (3, TT 24))]), OA 8 (.alloc 32 [.bool false, .string ⟨#[]⟩, .string ⟨#[]⟩, .bool false, .string ⟨#[]⟩,
 .string ⟨#[]⟩]), OB (.store 6 (TT 8) (TT 25))]) (.seq (.reg [OA 26 (.call 157 [II 0]), OA 27 (.call 177 [TT 26]), OA 9 (.alloc 34 [.bool false, .bool false, .string ⟨#[]⟩, .string ⟨#[]⟩]), OB (.store 4 (TT 9) (TT 27))]) (.seq
 (.reg [OA 10 (.mv (.const (.slice none 0 0)))]) (.seq (.seq (.reg [FF 28 11 2, VV 29 28, OA 30 (.len false (TT 29)), OA 31 (.mv (II 0))]) (.block 0 (.loop (.seq (.reg [OA 32 (.bin .lss (TT 31) (TT 30))]) (.seq (.cond (TT 32)
 .skip (.exit 0)) (.seq (.block 1 (.seq (.reg [MM 33 31, OA 34 (.p9 16 (TT 29) (TT 31)), LL 35 16 34, OA 12 (.alloc 127 [.bool false, .string ⟨#[]⟩, .string ⟨#[]⟩, .bool false, .string ⟨#[]⟩, .string ⟨#[]⟩, .bool false,
 .string ⟨#[]⟩, .string ⟨#[]⟩, .bool false, .string ⟨#[]⟩, .string ⟨#[]⟩, .bool false, .string ⟨#[]⟩, .string ⟨#[]⟩, .slice none 0 0]), MM 11 33, OB (.store 16 (TT 12) (TT 35))]) (.seq (.F4 [.q, .q, .q, .q, .q, .q, .q, .q, .q,
 .a, .e (some 13) true] [LL 36 10 7, LL 37 6 8, MM 38 1, MM 39 11, OA 40 (.p9 3 (TT 38) (TT 39)), LL 41 3 40, OA 42 (.call 177 [TT 41]), OA 43 (.build [.bool false, .string ⟨#[]⟩, .string ⟨#[]⟩, .bool false, .string ⟨#[]⟩,
 .string ⟨#[]⟩, .bool false, .bool false, .string ⟨#[]⟩, .string ⟨#[]⟩] [(0, (6, TT 37)), (6, (4, TT 42))]), OA 44 (.call 35 [TT 36, TT 43]), OA 13 (.alloc 36 [.bool false, .string ⟨#[]⟩, .string ⟨#[]⟩, .bool false, .string
 ⟨#[]⟩, .string ⟨#[]⟩, .bool false, .bool false, .string ⟨#[]⟩, .string ⟨#[]⟩]), OB (.store 10 (TT 13) (TT 44))]) (.seq (.reg [MM 45 10, LL 46 10 13, OA 47 (.bsl 36 10 1 [.bool false, .string ⟨#[]⟩, .string ⟨#[]⟩, .bool false,
 .string ⟨#[]⟩, .string ⟨#[]⟩, .bool false, .bool false, .string ⟨#[]⟩, .string ⟨#[]⟩] [(0, TT 46)]), OA 48 (.app 36 10 128 (TT 45) (TT 47)), MM 10 48]) (.F4 [.q, .q, .q, .q, .q, .q, .q, .q, .e none true] [LL 49 10 13, FF 50 0
 12, LL 51 3 50, OA 52 (.call 157 [II 0]), OA 53 (.build [.bool false, .string ⟨#[]⟩, .string ⟨#[]⟩, .bool false, .string ⟨#[]⟩, .string ⟨#[]⟩] [(0, (3, TT 51)), (3, (3, TT 52))]), LL 54 4 9, OA 55 (.build [.bool false, .string
 ⟨#[]⟩, .string ⟨#[]⟩, .bool false, .string ⟨#[]⟩, .string ⟨#[]⟩, .bool false, .bool false, .string ⟨#[]⟩, .string ⟨#[]⟩] [(0, (6, TT 53)), (6, (4, TT 54))]), OA 56 (.call 35 [TT 49, TT 55]), OB (.store 10 (TT 7) (TT 56))])))))
 (.reg [OA 57 (.bin .add (TT 31) (II 1)), MM 31 57]))))))) (.seq (.reg [MM 58 10, LL 59 10 7, OA 60 (.bsl 36 10 1 [.bool false, .string ⟨#[]⟩, .string ⟨#[]⟩, .bool false, .string ⟨#[]⟩, .string ⟨#[]⟩, .bool false, .bool false,
 .string ⟨#[]⟩, .string ⟨#[]⟩] [(0, TT 59)]), OA 61 (.app 36 10 128 (TT 58) (TT 60)), MM 4 61, OA 5 (.mv (II 0))]) .ret)))))))⟩
theorem a9x : J2 eff Tryz.prog Tryz.f117 = some a4Y := by kernel_rfl
theorem a9p : Tryz.prog.funcs[117]? = some Tryz.f117 := Tryz.func117
end Go.Proofs.YtpjjiegfigpgnaaGreatDoor
