/- A part of the proof: lemmas only, with the conditions that each names. -/
import Derived.Test.YtogfpjohjphngaaGreatDoorProg
import Derived.KernelRfl
import Derived.Shelf.Strings.Trim
import Derived.Shelf.Small.Utf8
import Derived.Shelf.Small.Bits
import Derived.Shelf.Small.Strs
import Derived.Shelf.Strings.Search1
import Derived.Shelf.Strings.Runes
import Derived.Shelf.Strings.AsciiSet
import Derived.Shelf.Unicode.DecodeSlow
import Derived.Shelf.Slices.Turned
import Derived.Shelf.Spec.TrailingZeros
import Derived.Test.YtogfpjohjphngaaGreatDoorPk2
set_option linter.all false
namespace Go.Proofs.YtogfpjohjphngaaGreatDoor
open Go Eng
def c3l : List Nat := [86, 88, 89, 92, 93, 94, 95, 96, 97, 98, 173, 174, 176, 187, 189, 226, 227, 238, 240, 242, 245, 246, 247, 256]
def eff (f : Nat) : Bool := c3l.contains f
def a9o : l9 := ⟨89, [.tmp 4], .seq (.reg [OA 4 (.mv (.const (.string ⟨#[]⟩)))]) (.seq (.reg [MM 13 0, OA 14 (.call 184 [TT 13]), MM 15 1, OA 16 (.call 184 [TT 15]), MM 0 14, MM 1 16]) (.seq (.seq (.reg [MM 17 0, OA 18 (.len true (TT 17)), MM 19
 1, OA 20 (.len true (TT 19)), OA 21 (.bin .add (TT 18) (TT 20)), OA 22 (.bin .leq (TT 21) (II 8))]) (.cond (TT 22) (.seq (.reg [MM 23 0, OA 24 (.call 186 [TT 23]), MM 25 1, OA 26 (.call 186 [TT 25]), OA 27 (.bin .mul (TT 24) (TT
 26)), OA 28 (.call 185 [TT 27]), MM 4 28]) .ret) .skip)) (.seq (.reg [MM 29 0, OA 30 (.call 187 [TT 29]), MM 31 1, OA 32 (.call 187 [TT 31]), MM 5 30, MM 6 32]) (.seq (.reg [MM 33 5, OA 34 (.len false (TT 33)), MM 35 6, OA 36
 (.len false (TT 35)), OA 37 (.bin .add (TT 34) (TT 36)), OA 38 (.Z8 240 4 [.int .u32 0] (TT 37) (TT 37)), MM 7 38]) (.seq (.seq (.reg [MM 39 5, OA 40 (.len false (TT 39)), OA 41 (.mv (II 0))]) (.block 0 (.loop (.seq (.reg [OA
 42 (.bin .lss (TT 41) (TT 40))]) (.seq (.cond (TT 42) .skip (.exit 0)) (.seq (.block 1 (.seq (.reg [MM 43 41, OA 44 (.j4 1 (TT 39) (TT 41)), VV 45 44, MM 8 43, MM 9 45]) (.seq (.reg [OA 10 (.mv (.const (.int .u64 0)))]) (.seq
 (.seq (.reg [MM 46 6, OA 47 (.len false (TT 46)), OA 48 (.mv (II 0))]) (.block 2 (.loop (.seq (.reg [OA 49 (.bin .lss (TT 48) (TT 47))]) (.seq (.cond (TT 49) .skip (.exit 2)) (.seq (.block 3 (.seq (.reg [MM 50 48, OA 51 (.j4
 1 (TT 46) (TT 48)), VV 52 51, MM 11 50, MM 12 52]) (.seq (.reg [MM 53 10, MM 54 9, OA 55 (.conv .u64 (TT 54)), MM 56 12, OA 57 (.conv .u64 (TT 56)), OA 58 (.bin .mul (TT 55) (TT 57)), MM 59 7, MM 60 8, MM 61 11, OA 62 (.bin .add
 (TT 60) (TT 61)), OA 63 (.j4 1 (TT 59) (TT 62)), VV 64 63, OA 65 (.conv .u64 (TT 64)), OA 66 (.bin .add (TT 58) (TT 65)), OA 67 (.bin .add (TT 53) (TT 66)), MM 10 67]) (.seq (.reg [MM 68 7, MM 69 8, MM 70 11, OA 71 (.bin .add
 (TT 69) (TT 70)), MM 72 10, OA 73 (.conv .u32 (TT 72)), OA 74 (.j4 1 (TT 68) (TT 71)), OB (.store 1 (TT 74) (TT 73))]) (.reg [MM 75 10, OA 76 (.bin .shr (TT 75) (.const (.int .u64 32))), MM 10 76]))))) (.reg [OA 77 (.bin .add
 (TT 48) (II 1)), MM 48 77]))))))) (.reg [MM 78 7, MM 79 8, MM 80 6, OA 81 (.len false (TT 80)), OA 82 (.bin .add (TT 79) (TT 81)), MM 83 10, OA 84 (.conv .u32 (TT 83)), OA 85 (.j4 1 (TT 78) (TT 82)), OB (.store 1 (TT 85) (TT
 84))]))))) (.reg [OA 86 (.bin .add (TT 41) (II 1)), MM 41 86]))))))) (.seq (.reg [MM 87 7, OA 88 (.call 188 [TT 87]), MM 4 88]) .ret))))))⟩
theorem b6d : j6 eff Tryz.prog Tryz.f79 = some a9o := by kernel_rfl
theorem b6X : Tryz.prog.funcs[79]? = some Tryz.f79 := Tryz.func79
def a9y : l9 := ⟨24, [.tmp 4], .seq (.reg [OA 4 (.mv (II 0))]) (.seq (.reg [MM 5 0, OA 6 (.call 184 [TT 5]), MM 7 1, OA 8 (.call 184 [TT 7]), MM 0 6, MM 1 8]) (.seq (.block 0 (.seq (.reg [MM 10 0, OA 11 (.len true (TT 10)), MM 12 1, OA 13 (.len
 true (TT 12)), OA 14 (.bin .lss (TT 11) (TT 13)), MM 9 14]) (.cond (TT 9) (.seq (.reg [OA 4 (.mv (II (-1)))]) .ret) (.seq (.reg [MM 16 0, OA 17 (.len true (TT 16)), MM 18 1, OA 19 (.len true (TT 18)), OA 20 (.bin .gtr (TT 17)
 (TT 19)), MM 15 20]) (.cond (TT 15) (.seq (.reg [OA 4 (.mv (II 1))]) .ret) .skip))))) (.seq (.reg [MM 21 0, MM 22 1, OA 23 (.call 214 [TT 21, TT 22]), MM 4 23]) .ret)))⟩
theorem b5T : j6 eff Tryz.prog Tryz.f156 = some a9y := by kernel_rfl
theorem b7u : Tryz.prog.funcs[156]? = some Tryz.f156 := Tryz.func156
def a9H : l9 := ⟨57, [.tmp 4], .seq (.reg [OA 4 (.mv (.const (.string ⟨#[]⟩)))]) (.seq (.reg [MM 8 0, OA 9 (.call 184 [TT 8]), MM 10 1, OA 11 (.call 184 [TT 10]), MM 0 9, MM 1 11]) (.seq (.block 0 (.loop (.seq (.seq (.reg [MM 12 0, OA 13 (.bin
 .neq (TT 12) (.const (.string ⟨#[]⟩))), MM 14 13, MG 15 1 14 true, OC 16 (.bin .neq (TT 15) (.const (.string ⟨#[]⟩))) 14 true, OA 17 (.pick (TT 14) (TT 16) (.const (.bool false)))]) (.cond (TT 17) .skip (.exit 0))) (.block 1
 (.seq (.seq (.reg [MM 18 0, OA 19 (.len true (TT 18)), MM 20 1, OA 21 (.len true (TT 20)), OA 22 (.bin .lss (TT 19) (TT 21))]) (.cond (TT 22) (.reg [MM 23 1, MM 24 0, MM 0 23, MM 1 24]) .skip)) (.seq (.block 2 (.seq (.reg [MM 26
 0, OA 27 (.len true (TT 26)), OA 28 (.bin .leq (TT 27) (II 8)), MM 25 28]) (.cond (TT 25) (.seq (.reg [MM 29 0, OA 30 (.call 186 [TT 29]), MM 31 1, OA 32 (.call 186 [TT 31]), OA 33 (.call 221 [TT 30, TT 32]), OA 34 (.call 185
 [TT 33]), MM 4 34]) .ret) (.seq (.reg [MM 36 0, OA 37 (.len true (TT 36)), MM 38 1, OA 39 (.len true (TT 38)), OA 40 (.bin .add (TT 39) (II 8)), OA 41 (.bin .leq (TT 37) (TT 40)), MM 35 41]) (.cond (TT 35) (.seq (.reg [MM 42 0,
 MM 43 1, OA 44 (.call 222 [TT 42, TT 43]), MM 4 44]) .ret) .skip))))) (.seq (.reg [MM 46 0, MM 47 1, OA 48 (.call 183 [TT 46, TT 47]), MM 45 48, OA 49 (.ext (TT 45) 0), OA 50 (.ext (TT 45) 1), OA 51 (.ext (TT 45) 2), MM 5 49, MM
 6 50, MM 7 51]) (.reg [MM 52 1, MM 53 6, MM 0 52, MM 1 53])))))))) (.seq (.reg [MM 54 0, MM 55 1, OA 56 (.bin .add (TT 54) (TT 55)), MM 4 56]) .ret)))⟩
theorem b5V : j6 eff Tryz.prog Tryz.f167 = some a9H := by kernel_rfl
theorem b5M : Tryz.prog.funcs[167]? = some Tryz.f167 := Tryz.func167
def b1d : l9 := ⟨8, [.tmp 2], .seq (.reg [OA 2 (.mv (.const (.string ⟨#[]⟩)))]) (.seq (.seq (.reg [MM 3 0, OA 4 (.bin .lss (TT 3) (II 1))]) (.cond (TT 4) (.seq (.reg [OA 2 (.mv (.const (.string ⟨#[]⟩)))]) .ret) .skip)) (.seq (.reg [MM 5 0, OA 6
 (.conv .u64 (TT 5)), OA 7 (.call 185 [TT 6]), MM 2 7]) .ret))⟩
theorem b8D : j6 eff Tryz.prog Tryz.f178 = some b1d := by kernel_rfl
theorem b7N : Tryz.prog.funcs[178]? = some Tryz.f178 := Tryz.func178
def a8J : l9 := ⟨82, [.tmp 4], .seq (.reg [OA 4 (.mv (.const (.string ⟨#[]⟩)))]) (.seq (.reg [MM 11 0, OA 12 (.call 184 [TT 11]), MM 13 1, OA 14 (.call 184 [TT 13]), MM 0 12, MM 1 14]) (.seq (.seq (.reg [MM 15 0, OA 16 (.len true (TT 15)), OA 17
 (.bin .lss (TT 16) (II 8)), MM 18 17, MG 19 1 18 true, OC 20 (.len true (TT 19)) 18 true, OC 21 (.bin .lss (TT 20) (II 8)) 18 true, OA 22 (.pick (TT 18) (TT 21) (.const (.bool false)))]) (.cond (TT 22) (.seq (.reg [MM 23 0, OA
 24 (.call 186 [TT 23]), MM 25 1, OA 26 (.call 186 [TT 25]), OA 27 (.bin .add (TT 24) (TT 26)), OA 28 (.call 185 [TT 27]), MM 4 28]) .ret) .skip)) (.seq (.reg [MM 29 0, OA 30 (.call 187 [TT 29]), MM 31 1, OA 32 (.call 187 [TT
 31]), MM 5 30, MM 6 32]) (.seq (.seq (.reg [MM 33 5, OA 34 (.len false (TT 33)), MM 35 6, OA 36 (.len false (TT 35)), OA 37 (.bin .lss (TT 34) (TT 36))]) (.cond (TT 37) (.reg [MM 38 6, MM 39 5, MM 5 38, MM 6 39]) .skip)) (.seq
 (.reg [MM 40 5, OA 41 (.len false (TT 40)), OA 42 (.bin .add (TT 41) (II 1)), OA 43 (.Z8 240 4 [.int .u32 0] (TT 42) (TT 42)), MM 7 43]) (.seq (.reg [OA 8 (.mv (.const (.int .u64 0)))]) (.seq (.seq (.reg [MM 44 5, OA 45 (.len
 false (TT 44)), OA 46 (.mv (II 0))]) (.block 0 (.loop (.seq (.reg [OA 47 (.bin .lss (TT 46) (TT 45))]) (.seq (.cond (TT 47) .skip (.exit 0)) (.seq (.block 1 (.seq (.reg [MM 48 46, OA 49 (.j4 1 (TT 44) (TT 46)), VV 50 49, MM 9
 48, MM 10 50]) (.seq (.reg [MM 51 8, MM 52 10, OA 53 (.conv .u64 (TT 52)), OA 54 (.bin .add (TT 51) (TT 53)), MM 8 54]) (.seq (.seq (.reg [MM 55 9, MM 56 6, OA 57 (.len false (TT 56)), OA 58 (.bin .lss (TT 55) (TT 57))]) (.cond
 (TT 58) (.reg [MM 59 8, MM 60 6, MM 61 9, OA 62 (.j4 1 (TT 60) (TT 61)), VV 63 62, OA 64 (.conv .u64 (TT 63)), OA 65 (.bin .add (TT 59) (TT 64)), MM 8 65]) .skip)) (.seq (.reg [MM 66 7, MM 67 9, MM 68 8, OA 69 (.conv .u32 (TT
 68)), OA 70 (.j4 1 (TT 66) (TT 67)), OB (.store 1 (TT 70) (TT 69))]) (.reg [MM 71 8, OA 72 (.bin .shr (TT 71) (.const (.int .u64 32))), MM 8 72])))))) (.reg [OA 73 (.bin .add (TT 46) (II 1)), MM 46 73]))))))) (.seq (.reg [MM
 74 7, MM 75 5, OA 76 (.len false (TT 75)), MM 77 8, OA 78 (.conv .u32 (TT 77)), OA 79 (.j4 1 (TT 74) (TT 76)), OB (.store 1 (TT 79) (TT 78))]) (.seq (.reg [MM 80 7, OA 81 (.call 188 [TT 80]), MM 4 81]) .ret)))))))))⟩
theorem b6x : j6 eff Tryz.prog Tryz.f179 = some a8J := by kernel_rfl
theorem b6e : Tryz.prog.funcs[179]? = some Tryz.f179 := Tryz.func179
def a9g : l9 := ⟨21, [.tmp 4, .tmp 5], .seq (.reg [OA 4 (.mv (.const (.string ⟨#[]⟩))), OA 5 (.mv (II 0))]) (.seq (.seq (.reg [MM 8 0, MM 9 1, OA 10 (.call 156 [TT 8, TT 9]), OA 11 (.bin .lss (TT 10) (II 0))]) (.cond (TT 11) (.seq (.reg [OA 4
 (.mv (.const (.string ⟨#[]⟩))), OA 5 (.mv (II 1))]) .ret) .skip)) (.seq (.reg [MM 12 0, OA 13 (.call 187 [TT 12]), MM 14 1, OA 15 (.call 187 [TT 14]), MM 6 13, MM 7 15]) (.seq (.reg [MM 16 6, MM 17 7, OA 18 (.call 226 [TT 16, TT
 17])]) (.seq (.reg [MM 19 6, OA 20 (.call 188 [TT 19]), MM 4 20, OA 5 (.mv (II 0))]) .ret))))⟩
theorem b6J : j6 eff Tryz.prog Tryz.f182 = some a9g := by kernel_rfl
theorem b6m : Tryz.prog.funcs[182]? = some Tryz.f182 := Tryz.func182
def a9r : l9 := ⟨99, [.tmp 4, .tmp 5, .tmp 6], .seq (.reg [OA 4 (.mv (.const (.string ⟨#[]⟩))), OA 5 (.mv (.const (.string ⟨#[]⟩))), OA 6 (.mv (II 0))]) (.seq (.reg [MM 13 0, OA 14 (.call 184 [TT 13]), MM 15 1, OA 16 (.call 184 [TT 15]), MM 0 14,
 MM 1 16]) (.seq (.block 0 (.seq (.reg [MM 18 1, OA 19 (.bin .eql (TT 18) (.const (.string ⟨#[]⟩))), MM 17 19]) (.cond (TT 17) (.seq (.reg [OA 4 (.mv (.const (.string ⟨#[]⟩))), OA 5 (.mv (.const (.string ⟨#[]⟩))), OA 6 (.mv (II
 12))]) .ret) (.seq (.reg [MM 21 0, OA 22 (.len true (TT 21)), OA 23 (.bin .leq (TT 22) (II 8)), MM 24 23, MG 25 1 24 true, OC 26 (.len true (TT 25)) 24 true, OC 27 (.bin .leq (TT 26) (II 8)) 24 true, OA 28 (.pick (TT 24) (TT 27)
 (.const (.bool false))), MM 20 28]) (.cond (TT 20) (.seq (.reg [MM 29 0, OA 30 (.call 186 [TT 29]), MM 31 1, OA 32 (.call 186 [TT 31]), OA 33 (.bin .quo (TT 30) (TT 32)), OA 34 (.call 185 [TT 33]), MM 35 0, OA 36 (.call 186 [TT
 35]), MM 37 1, OA 38 (.call 186 [TT 37]), OA 39 (.bin .rem (TT 36) (TT 38)), OA 40 (.call 185 [TT 39]), MM 4 34, MM 5 40, OA 6 (.mv (II 0))]) .ret) (.seq (.reg [MM 42 0, MM 43 1, OA 44 (.call 156 [TT 42, TT 43]), OA 45 (.bin
 .lss (TT 44) (II 0)), MM 41 45]) (.cond (TT 41) (.seq (.reg [MM 46 0, OA 4 (.mv (.const (.string ⟨#[]⟩))), MM 5 46, OA 6 (.mv (II 0))]) .ret) .skip))))))) (.seq (.reg [MM 47 0, OA 48 (.call 187 [TT 47]), MM 49 1, OA 50 (.call
 187 [TT 49]), MM 7 48, MM 8 50]) (.seq (.seq (.reg [MM 51 8, OA 52 (.len false (TT 51)), OA 53 (.bin .eql (TT 52) (II 1))]) (.cond (TT 53) (.seq (.reg [OA 9 (.mv (.const (.int .u64 0)))]) (.seq (.seq (.reg [MM 54 7, OA 55 (.len
 false (TT 54)), OA 56 (.bin .sub (TT 55) (II 1)), MM 10 56]) (.block 1 (.loop (.seq (.seq (.reg [MM 57 10, OA 58 (.bin .geq (TT 57) (II 0))]) (.cond (TT 58) .skip (.exit 1))) (.seq (.block 2 (.seq (.reg [MM 61 9, OA 62 (.bin
 .shl (TT 61) (.const (.int .u64 32))), MM 63 7, MM 64 10, OA 65 (.j4 1 (TT 63) (TT 64)), VV 66 65, OA 67 (.conv .u64 (TT 66)), OA 68 (.bin .or (TT 62) (TT 67)), MM 9 68]) (.C9 [.q, .q, .q, .q, .q, .q, .q, .q, .q, .l, .q,
 .q, .q, .l, .l, .q, .e none false, .q] [MM 69 7, MM 70 10, MM 71 9, MM 72 8, OA 73 (.j4 1 (TT 72) (II 0)), VV 74 73, OA 75 (.conv .u64 (TT 74)), OA 76 (.bin .quo (TT 71) (TT 75)), OA 77 (.conv .u32 (TT 76)), MM 78 9, MM 79 8,
 OA 80 (.j4 1 (TT 79) (II 0)), VV 81 80, OA 82 (.conv .u64 (TT 81)), OA 83 (.bin .rem (TT 78) (TT 82)), OA 84 (.j4 1 (TT 69) (TT 70)), OB (.store 1 (TT 84) (TT 77)), MM 9 83]))) (.reg [MM 59 10, OA 60 (.bin .sub (TT 59) (II
 1)), MM 10 60])))))) (.seq (.reg [MM 85 7, OA 86 (.call 188 [TT 85]), MM 87 9, OA 88 (.call 185 [TT 87]), MM 4 86, MM 5 88, OA 6 (.mv (II 0))]) .ret))) .skip)) (.seq (.reg [MM 90 7, MM 91 8, OA 92 (.call 227 [TT 90, TT 91]), MM
 89 92, OA 93 (.ext (TT 89) 0), OA 94 (.ext (TT 89) 1), MM 11 93, MM 12 94]) (.seq (.reg [MM 95 11, OA 96 (.call 188 [TT 95]), MM 97 12, OA 98 (.call 188 [TT 97]), MM 4 96, MM 5 98, OA 6 (.mv (II 0))]) .ret))))))⟩
theorem b7f : j6 eff Tryz.prog Tryz.f183 = some a9r := by kernel_rfl
theorem b6o : Tryz.prog.funcs[183]? = some Tryz.f183 := Tryz.func183
def a8b : l9 := ⟨14, [.tmp 2], .seq (.reg [OA 2 (.mv (.const (.string ⟨#[]⟩)))]) (.seq (.block 0 (.loop (.seq (.seq (.reg [MM 3 0, OA 4 (.len true (TT 3)), OA 5 (.bin .gtr (TT 4) (II 0)), MM 6 5, MG 7 0 6 true, OC 8 (.idxs (TT 7) (II 0)) 6 true,
 OC 9 (.bin .eql (TT 8) (.const (.int .u8 0))) 6 true, OA 10 (.pick (TT 6) (TT 9) (.const (.bool false)))]) (.cond (TT 10) .skip (.exit 0))) (.block 1 (.reg [MM 11 0, OA 12 (.a6r (TT 11) (some (II 1)) none), MM 0 12]))))) (.seq
 (.reg [MM 13 0, MM 2 13]) .ret))⟩
theorem b4P : j6 eff Tryz.prog Tryz.f184 = some a8b := by kernel_rfl
theorem b4s : Tryz.prog.funcs[184]? = some Tryz.f184 := Tryz.func184
def a3x : l9 := ⟨20, [.tmp 2], .seq (.reg [OA 2 (.mv (.const (.string ⟨#[]⟩)))]) (.seq (.reg [OA 3 (.alloc 273 [.int .u8 0, .int .u8 0, .int .u8 0, .int .u8 0, .int .u8 0, .int .u8 0, .int .u8 0, .int .u8 0])]) (.seq (.seq (.reg [OA 5 (.mv (II
 0))]) (.block 0 (.loop (.seq (.reg [OA 6 (.bin .lss (TT 5) (II 8))]) (.seq (.cond (TT 6) .skip (.exit 0)) (.seq (.block 1 (.seq (.reg [MM 7 5, MM 4 7]) (.reg [MM 8 4, MM 9 0, MM 10 4, OA 11 (.bin .mul (II 8) (TT 10)), OA 12
 (.bin .sub (II 56) (TT 11)), OA 13 (.bin .shr (TT 9) (TT 12)), OA 14 (.conv .u8 (TT 13)), OA 15 (.a2G 1 8 (TT 3) (TT 8)), OB (.store 1 (TT 15) (TT 14))]))) (.reg [OA 16 (.bin .add (TT 5) (II 1)), MM 5 16]))))))) (.seq (.reg
 [OA 17 (.a5H 1 8 (TT 3)), OA 18 (.toStr (TT 17)), OA 19 (.call 184 [TT 18]), MM 2 19]) .ret)))⟩
theorem a8p : j6 eff Tryz.prog Tryz.f185 = some a3x := by kernel_rfl
theorem a8G : Tryz.prog.funcs[185]? = some Tryz.f185 := Tryz.func185
def a6s : l9 := ⟨19, [.tmp 2], .seq (.reg [OA 2 (.mv (.const (.int .u64 0)))]) (.seq (.reg [OA 3 (.mv (.const (.int .u64 0)))]) (.seq (.seq (.reg [MM 5 0, OA 6 (.len true (TT 5)), OA 7 (.mv (II 0))]) (.block 0 (.loop (.seq (.reg [OA 8 (.bin .lss
 (TT 7) (TT 6))]) (.seq (.cond (TT 8) .skip (.exit 0)) (.seq (.block 1 (.seq (.reg [MM 9 7, MM 4 9]) (.reg [MM 10 3, OA 11 (.bin .shl (TT 10) (.const (.int .u64 8))), MM 12 0, MM 13 4, OA 14 (.idxs (TT 12) (TT 13)), OA 15 (.conv
 .u64 (TT 14)), OA 16 (.bin .or (TT 11) (TT 15)), MM 3 16]))) (.reg [OA 17 (.bin .add (TT 7) (II 1)), MM 7 17]))))))) (.seq (.reg [MM 18 3, MM 2 18]) .ret)))⟩
theorem b3C : j6 eff Tryz.prog Tryz.f186 = some a6s := by kernel_rfl
theorem b3n : Tryz.prog.funcs[186]? = some Tryz.f186 := Tryz.func186
def a6J : l9 := ⟨40, [.tmp 2], .seq (.reg [OA 2 (.mv (.const (.slice none 0 0)))]) (.seq (.reg [MM 6 0, OA 7 (.call 184 [TT 6]), MM 0 7]) (.seq (.reg [MM 8 0, OA 9 (.len true (TT 8)), OA 10 (.bin .add (TT 9) (II 3)), OA 11 (.bin .quo (TT 10) (II
 4)), OA 12 (.Z8 240 4 [.int .u32 0] (TT 11) (TT 11)), MM 3 12]) (.seq (.seq (.reg [MM 13 0, OA 14 (.len true (TT 13)), OA 15 (.mv (II 0))]) (.block 0 (.loop (.seq (.reg [OA 16 (.bin .lss (TT 15) (TT 14))]) (.seq (.cond (TT 16)
 .skip (.exit 0)) (.seq (.block 1 (.seq (.reg [MM 17 15, MM 4 17]) (.seq (.reg [MM 18 0, OA 19 (.len true (TT 18)), OA 20 (.bin .sub (TT 19) (II 1)), MM 21 4, OA 22 (.bin .sub (TT 20) (TT 21)), MM 5 22]) (.C9 [.q, .q, .q, .q,
 .q, .q, .q, .q, .q, .q, .q, .q, .q, .q, .q, .e none false] [MM 23 3, MM 24 4, OA 25 (.bin .quo (TT 24) (II 4)), OA 26 (.j4 1 (TT 23) (TT 25)), VV 27 26, MM 28 0, MM 29 5, OA 30 (.idxs (TT 28) (TT 29)), OA 31 (.conv .u32 (TT
 30)), MM 32 4, OA 33 (.bin .rem (TT 32) (II 4)), OA 34 (.bin .mul (TT 33) (II 8)), OA 35 (.bin .shl (TT 31) (TT 34)), OA 36 (.bin .or (TT 27) (TT 35)), OA 37 (.j4 1 (TT 23) (TT 25)), OB (.store 1 (TT 37) (TT 36))])))) (.reg
 [OA 38 (.bin .add (TT 15) (II 1)), MM 15 38]))))))) (.seq (.reg [MM 39 3, MM 2 39]) .ret))))⟩
theorem b3e : j6 eff Tryz.prog Tryz.f187 = some a6J := by kernel_rfl
theorem b2Q : Tryz.prog.funcs[187]? = some Tryz.f187 := Tryz.func187
def a7L : l9 := ⟨54, [.tmp 2], .seq (.reg [OA 2 (.mv (.const (.string ⟨#[]⟩)))]) (.seq (.reg [MM 7 0, OA 8 (.len false (TT 7)), OA 9 (.bin .mul (II 4) (TT 8)), OA 10 (.Z8 5 1 [.int .u8 0] (TT 9) (TT 9)), MM 3 10]) (.seq (.seq (.reg [MM 11 0, OA
 12 (.len false (TT 11)), OA 13 (.mv (II 0))]) (.block 0 (.loop (.seq (.reg [OA 14 (.bin .lss (TT 13) (TT 12))]) (.seq (.cond (TT 14) .skip (.exit 0)) (.seq (.block 1 (.seq (.reg [MM 15 13, OA 16 (.j4 1 (TT 11) (TT 13)), VV 17
 16, MM 4 15, MM 5 17]) (.seq (.reg [MM 18 0, OA 19 (.len false (TT 18)), OA 20 (.bin .sub (TT 19) (II 1)), MM 21 4, OA 22 (.bin .sub (TT 20) (TT 21)), OA 23 (.bin .mul (II 4) (TT 22)), MM 6 23]) (.reg [MM 24 3, MM 25 6, MM 26 3,
 MM 27 6, OA 28 (.bin .add (TT 27) (II 1)), MM 29 3, MM 30 6, OA 31 (.bin .add (TT 30) (II 2)), MM 32 3, MM 33 6, OA 34 (.bin .add (TT 33) (II 3)), MM 35 5, OA 36 (.bin .shr (TT 35) (.const (.int .u64 24))), OA 37 (.conv .u8 (TT
 36)), MM 38 5, OA 39 (.bin .shr (TT 38) (.const (.int .u64 16))), OA 40 (.conv .u8 (TT 39)), MM 41 5, OA 42 (.bin .shr (TT 41) (.const (.int .u64 8))), OA 43 (.conv .u8 (TT 42)), MM 44 5, OA 45 (.conv .u8 (TT 44)), OA 46 (.j4
 1 (TT 24) (TT 25)), OB (.store 1 (TT 46) (TT 37)), OA 47 (.j4 1 (TT 26) (TT 28)), OB (.store 1 (TT 47) (TT 40)), OA 48 (.j4 1 (TT 29) (TT 31)), OB (.store 1 (TT 48) (TT 43)), OA 49 (.j4 1 (TT 32) (TT 34)), OB (.store 1
 (TT 49) (TT 45))])))) (.reg [OA 50 (.bin .add (TT 13) (II 1)), MM 13 50]))))))) (.seq (.reg [MM 51 3, OA 52 (.toStr (TT 51)), OA 53 (.call 184 [TT 52]), MM 2 53]) .ret)))⟩
theorem b3W : j6 eff Tryz.prog Tryz.f188 = some a7L := by kernel_rfl
theorem b4N : Tryz.prog.funcs[188]? = some Tryz.f188 := Tryz.func188
def a5W : l9 := ⟨12, [.tmp 4], .seq (.reg [OA 4 (.mv (.const (.int .u64 0)))]) (.seq (.block 0 (.loop (.seq (.seq (.reg [MM 5 1, OA 6 (.bin .gtr (TT 5) (.const (.int .u64 0)))]) (.cond (TT 6) .skip (.exit 0))) (.block 1 (.C9 [.q, .q, .q, .q,
 .q, .q] [MM 7 1, MM 8 0, MM 9 1, OA 10 (.bin .rem (TT 8) (TT 9)), MM 0 7, MM 1 10]))))) (.seq (.reg [MM 11 0, MM 4 11]) .ret))⟩
theorem b1t : j6 eff Tryz.prog Tryz.f221 = some a5W := by kernel_rfl
theorem b1I : Tryz.prog.funcs[221]? = some Tryz.f221 := Tryz.func221
def a5U : l9 := ⟨117, [.tmp 4], .seq (.reg [OA 4 (.mv (.const (.string ⟨#[]⟩)))]) (.seq (.reg [MM 14 0, OA 15 (.call 238 [TT 14]), MM 16 1, OA 17 (.call 238 [TT 16]), MM 5 15, MM 6 17]) (.seq (.reg [MM 18 5, OA 19 (.call 239 [TT 18]), MM 20 6, OA
 21 (.call 239 [TT 20]), MM 7 19, MM 8 21]) (.seq (.reg [MM 22 5, MM 23 7, OA 24 (.call 240 [TT 22, TT 23]), MM 25 6, MM 26 8, OA 27 (.call 240 [TT 25, TT 26]), MM 5 24, MM 6 27]) (.seq (.block 0 (.loop (.seq (.seq (.reg [MM 28
 5, OA 29 (.len false (TT 28)), OA 30 (.bin .gtr (TT 29) (II 1)), MM 31 30, MG 32 6 31 false, OC 33 (.len false (TT 32)) 31 false, OC 34 (.bin .gtr (TT 33) (II 1)) 31 false, OA 35 (.pick (TT 31) (.const (.bool true)) (TT 34))])
 (.cond (TT 35) .skip (.exit 0))) (.block 1 (.seq (.seq (.reg [MM 36 5, MM 37 6, OA 38 (.call 241 [TT 36, TT 37])]) (.cond (TT 38) (.reg [MM 39 6, MM 40 5, MM 5 39, MM 6 40]) .skip)) (.seq (.seq (.reg [MM 41 5, MM 42 6, OA 43
 (.call 242 [TT 41, TT 42]), MM 5 43]) (.seq (.reg [MM 44 5, OA 45 (.len false (TT 44)), OA 46 (.bin .eql (TT 45) (II 0))]) (.cond (TT 46) (.exit 0) .skip))) (.reg [MM 47 5, MM 48 5, OA 49 (.call 239 [TT 48]), OA 50 (.call 240
 [TT 47, TT 49]), MM 5 50]))))))) (.seq (.seq (.reg [MM 51 5, OA 52 (.len false (TT 51)), OA 53 (.bin .eql (TT 52) (II 1)), MM 54 53, MG 55 6 54 true, OC 56 (.len false (TT 55)) 54 true, OC 57 (.bin .eql (TT 56) (II 1)) 54 true,
 OA 58 (.pick (TT 54) (TT 57) (.const (.bool false)))]) (.cond (TT 58) (.C9 [.q, .q, .q, .q, .q, .q, .q, .q, .q, .e none false] [MM 59 6, MM 60 5, OA 61 (.j4 1 (TT 60) (II 0)), VV 62 61, MM 63 6, OA 64 (.j4 1 (TT 63) (II
 0)), VV 65 64, OA 66 (.call 221 [TT 62, TT 65]), OA 67 (.j4 1 (TT 59) (II 0)), OB (.store 1 (TT 67) (TT 66))]) .skip)) (.seq (.reg [MM 68 6, OA 69 (.len false (TT 68)), OA 70 (.bin .mul (II 8) (TT 69)), OA 71 (.Z8 5 1 [.int
 .u8 0] (TT 70) (TT 70)), MM 9 71]) (.seq (.seq (.reg [MM 72 6, OA 73 (.len false (TT 72)), OA 74 (.mv (II 0))]) (.block 2 (.loop (.seq (.reg [OA 75 (.bin .lss (TT 74) (TT 73))]) (.seq (.cond (TT 75) .skip (.exit 2)) (.seq
 (.block 3 (.seq (.reg [MM 76 74, OA 77 (.j4 1 (TT 72) (TT 74)), VV 78 77, MM 10 76, MM 11 78]) (.seq (.reg [OA 79 (.mv (II 0))]) (.block 4 (.loop (.seq (.reg [OA 80 (.bin .lss (TT 79) (II 8))]) (.seq (.cond (TT 80) .skip
 (.exit 4)) (.seq (.block 5 (.seq (.reg [MM 81 79, MM 12 81]) (.reg [MM 82 9, MM 83 6, OA 84 (.len false (TT 83)), OA 85 (.bin .sub (TT 84) (II 1)), MM 86 10, OA 87 (.bin .sub (TT 85) (TT 86)), OA 88 (.bin .mul (II 8) (TT 87)),
 MM 89 12, OA 90 (.bin .add (TT 88) (TT 89)), MM 91 11, MM 92 12, OA 93 (.bin .mul (II 8) (TT 92)), OA 94 (.bin .sub (II 56) (TT 93)), OA 95 (.bin .shr (TT 91) (TT 94)), OA 96 (.conv .u8 (TT 95)), OA 97 (.j4 1 (TT 82) (TT
 90)), OB (.store 1 (TT 97) (TT 96))]))) (.reg [OA 98 (.bin .add (TT 79) (II 1)), MM 79 98]))))))))) (.reg [OA 99 (.bin .add (TT 74) (II 1)), MM 74 99]))))))) (.seq (.reg [MM 100 7, MM 101 8, OA 102 (.min (TT 100) (TT 101)), MM 7
 102]) (.seq (.reg [MM 103 7, OA 104 (.bin .quo (TT 103) (II 8)), OA 105 (.bin .add (TT 104) (II 1)), OA 106 (.Z8 5 1 [.int .u8 0] (TT 105) (TT 105)), MM 13 106]) (.seq (.reg [MM 107 13, MM 108 7, OA 109 (.bin .rem (TT 108) (II
 8)), OA 110 (.bin .shl (.const (.int .u8 1)) (TT 109)), OA 111 (.j4 1 (TT 107) (II 0)), OB (.store 1 (TT 111) (TT 110))]) (.seq (.reg [MM 112 9, OA 113 (.toStr (TT 112)), MM 114 13, OA 115 (.toStr (TT 114)), OA 116 (.call 79
 [TT 113, TT 115]), MM 4 116]) .ret)))))))))))⟩
theorem b1y : j6 eff Tryz.prog Tryz.f222 = some a5U := by kernel_rfl
theorem b1G : Tryz.prog.funcs[222]? = some Tryz.f222 := Tryz.func222
def a7I : l9 := ⟨38, [], .seq (.reg [OA 4 (.mv (.const (.int .u64 0)))]) (.seq (.reg [MM 8 0, OA 9 (.len false (TT 8)), OA 10 (.mv (II 0))]) (.block 0 (.loop (.seq (.reg [OA 11 (.bin .lss (TT 10) (TT 9))]) (.seq (.cond (TT 11) .skip (.exit 0))
 (.seq (.block 1 (.seq (.reg [MM 12 10, OA 13 (.j4 1 (TT 8) (TT 10)), VV 14 13, MM 5 12, MM 6 14]) (.seq (.reg [MM 15 6, OA 16 (.conv .u64 (TT 15)), MM 17 4, OA 18 (.bin .sub (TT 16) (TT 17)), MM 7 18]) (.seq (.seq (.reg [MM
 19 5, MM 20 1, OA 21 (.len false (TT 20)), OA 22 (.bin .lss (TT 19) (TT 21))]) (.cond (TT 22) (.reg [MM 23 7, MM 24 1, MM 25 5, OA 26 (.j4 1 (TT 24) (TT 25)), VV 27 26, OA 28 (.conv .u64 (TT 27)), OA 29 (.bin .sub (TT 23) (TT
 28)), MM 7 29]) .skip)) (.reg [MM 30 0, MM 31 5, MM 32 7, OA 33 (.conv .u32 (TT 32)), MM 34 7, OA 35 (.bin .shr (TT 34) (.const (.int .u64 63))), OA 36 (.j4 1 (TT 30) (TT 31)), OB (.store 1 (TT 36) (TT 33)), MM 4 35])))))
 (.reg [OA 37 (.bin .add (TT 10) (II 1)), MM 10 37])))))))⟩
theorem b4K : j6 eff Tryz.prog Tryz.f226 = some a7I := by kernel_rfl
theorem b4t : Tryz.prog.funcs[226]? = some Tryz.f226 := Tryz.func226
def a7W : l9 := ⟨179, [.tmp 4, .tmp 5], .seq (.reg [OA 4 (.mv (.const (.slice none 0 0))), OA 5 (.mv (.const (.slice none 0 0)))]) (.seq (.reg [MM 15 1, MM 16 1, OA 17 (.len false (TT 16)), OA 18 (.bin .sub (TT 17) (II 1)), OA 19 (.j4 1 (TT
 15) (TT 18)), VV 20 19, OA 21 (.call 244 [TT 20]), MM 6 21]) (.seq (.reg [MM 22 1, OA 23 (.len false (TT 22)), MM 7 23]) (.seq (.C9 [.q, .q, .e none false, .l, .l, .e none false, .l, .q, .q, .q] [MM 24 0, MM 25 6, OA 26 (.call
 245 [TT 24, TT 25]), MM 27 1, MM 28 6, OA 29 (.call 245 [TT 27, TT 28]), MM 30 7, OA 31 (.a1R 1 (TT 29) none (some (TT 30))), MM 8 26, MM 9 31]) (.seq (.reg [MM 32 8, OA 33 (.len false (TT 32)), MM 34 7, OA 35 (.bin .sub (TT
 33) (TT 34)), OA 36 (.Z8 240 4 [.int .u32 0] (TT 35) (TT 35)), MM 4 36]) (.seq (.seq (.reg [MM 37 4, OA 38 (.len false (TT 37)), OA 39 (.bin .sub (TT 38) (II 1)), MM 10 39]) (.block 0 (.loop (.seq (.seq (.reg [MM 40 10, OA 41
 (.bin .geq (TT 40) (II 0))]) (.cond (TT 41) .skip (.exit 0))) (.seq (.block 1 (.seq (.C9 [.q, .q, .q, .q, .q, .q, .q, .q, .q, .q, .q, .q, .q, .q, .q, .q, .q, .q] [MM 44 8, MM 45 10, MM 46 7, OA 47 (.bin .add (TT 45) (TT 46)),
 OA 48 (.j4 1 (TT 44) (TT 47)), VV 49 48, OA 50 (.conv .u64 (TT 49)), OA 51 (.bin .shl (TT 50) (.const (.int .u64 32))), MM 52 8, MM 53 10, MM 54 7, OA 55 (.bin .add (TT 53) (TT 54)), OA 56 (.bin .sub (TT 55) (II 1)), OA 57
 (.j4 1 (TT 52) (TT 56)), VV 58 57, OA 59 (.conv .u64 (TT 58)), OA 60 (.bin .or (TT 51) (TT 59)), MM 11 60]) (.seq (.C9 [.q, .q, .q, .q, .q, .q, .q, .q, .q, .q, .q, .q, .q, .q, .q, .q, .q, .q] [MM 61 11, MM 62 9, MM 63 7, OA
 64 (.bin .sub (TT 63) (II 1)), OA 65 (.j4 1 (TT 62) (TT 64)), VV 66 65, OA 67 (.conv .u64 (TT 66)), OA 68 (.bin .quo (TT 61) (TT 67)), MM 69 11, MM 70 9, MM 71 7, OA 72 (.bin .sub (TT 71) (II 1)), OA 73 (.j4 1 (TT 70) (TT
 72)), VV 74 73, OA 75 (.conv .u64 (TT 74)), OA 76 (.bin .rem (TT 69) (TT 75)), MM 12 68, MM 13 76]) (.seq (.block 2 (.loop (.seq (.seq (.C9 [.q, .q, .q, .q, .q, .q, .q, .q, .q, .q, .q, .q, .q, .q, .q, .q, .q, .q, .q, .q, .q,
 .q, .q, .q, .q] [MM 77 12, OA 78 (.bin .shr (TT 77) (.const (.int .u64 32))), OA 79 (.bin .gtr (TT 78) (.const (.int .u64 0))), MM 80 79, MG 81 12 80 false, MG 82 9 80 false, MG 83 7 80 false, OC 84 (.bin .sub (TT 83) (II 2)) 80
 false, OC 85 (.j4 1 (TT 82) (TT 84)) 80 false, VG 86 85 80 false, OC 87 (.conv .u64 (TT 86)) 80 false, OC 88 (.bin .mul (TT 81) (TT 87)) 80 false, MG 89 13 80 false, OC 90 (.bin .shl (TT 89) (.const (.int .u64 32))) 80 false,
 MG 91 8 80 false, MG 92 10 80 false, MG 93 7 80 false, OC 94 (.bin .add (TT 92) (TT 93)) 80 false, OC 95 (.bin .sub (TT 94) (II 2)) 80 false, OC 96 (.j4 1 (TT 91) (TT 95)) 80 false, VG 97 96 80 false, OC 98 (.conv .u64 (TT
 97)) 80 false, OC 99 (.bin .or (TT 90) (TT 98)) 80 false, OC 100 (.bin .gtr (TT 88) (TT 99)) 80 false, OA 101 (.pick (TT 80) (.const (.bool true)) (TT 100))]) (.cond (TT 101) .skip (.exit 2))) (.block 3 (.seq (.reg [MM 102 12,
 OA 103 (.bin .sub (TT 102) (.const (.int .u64 1))), MM 12 103]) (.seq (.reg [MM 104 13, MM 105 9, MM 106 7, OA 107 (.bin .sub (TT 106) (II 1)), OA 108 (.j4 1 (TT 105) (TT 107)), VV 109 108, OA 110 (.conv .u64 (TT 109)), OA
 111 (.bin .add (TT 104) (TT 110)), MM 13 111]) (.seq (.reg [MM 112 13, OA 113 (.bin .shr (TT 112) (.const (.int .u64 32))), OA 114 (.bin .gtr (TT 113) (.const (.int .u64 0)))]) (.cond (TT 114) (.exit 2) .skip)))))))) (.seq (.seq
 (.reg [MM 115 8, MM 116 10, MM 117 10, MM 118 7, OA 119 (.bin .add (TT 117) (TT 118)), OA 120 (.bin .add (TT 119) (II 1)), OA 121 (.a1R 1 (TT 115) (some (TT 116)) (some (TT 120))), MM 122 9, MM 123 12, OA 124 (.call 246 [TT
 121, TT 122, TT 123])]) (.cond (TT 124) (.seq (.reg [MM 125 12, OA 126 (.bin .sub (TT 125) (.const (.int .u64 1))), MM 12 126]) (.reg [MM 127 8, MM 128 10, MM 129 10, MM 130 7, OA 131 (.bin .add (TT 129) (TT 130)), OA 132 (.bin
 .add (TT 131) (II 1)), OA 133 (.a1R 1 (TT 127) (some (TT 128)) (some (TT 132))), MM 134 9, OA 135 (.call 247 [TT 133, TT 134])])) .skip)) (.reg [MM 136 4, MM 137 10, MM 138 12, OA 139 (.conv .u32 (TT 138)), OA 140 (.j4 1 (TT
 136) (TT 137)), OB (.store 1 (TT 140) (TT 139))])))))) (.reg [MM 42 10, OA 43 (.bin .sub (TT 42) (II 1)), MM 10 43])))))) (.seq (.reg [MM 141 8, MM 142 7, OA 143 (.a1R 1 (TT 141) none (some (TT 142))), MM 5 143]) (.seq (.seq
 (.reg [MM 144 5, OA 145 (.len false (TT 144)), OA 146 (.mv (II 0))]) (.block 4 (.loop (.seq (.reg [OA 147 (.bin .lss (TT 146) (TT 145))]) (.seq (.cond (TT 147) .skip (.exit 4)) (.seq (.block 5 (.seq (.reg [MM 148 146, MM 14
 148]) (.seq (.reg [MM 149 5, MM 150 14, OA 151 (.j4 1 (TT 149) (TT 150)), VV 152 151, MM 153 6, OA 154 (.bin .shr (TT 152) (TT 153)), OA 155 (.j4 1 (TT 149) (TT 150)), OB (.store 1 (TT 155) (TT 154))]) (.seq (.reg [MM 156
 14, OA 157 (.bin .add (TT 156) (II 1)), MM 158 7, OA 159 (.bin .lss (TT 157) (TT 158))]) (.cond (TT 159) (.C9 [.q, .q, .q, .q, .q, .q, .q, .q, .q, .q, .q, .q, .q, .q, .q, .q, .e none false] [MM 160 5, MM 161 14, OA 162 (.j4
 1 (TT 160) (TT 161)), VV 163 162, MM 164 8, MM 165 14, OA 166 (.bin .add (TT 165) (II 1)), OA 167 (.j4 1 (TT 164) (TT 166)), VV 168 167, OA 169 (.conv .u64 (TT 168)), MM 170 6, OA 171 (.bin .sub (II 32) (TT 170)), OA 172
 (.bin .shl (TT 169) (TT 171)), OA 173 (.conv .u32 (TT 172)), OA 174 (.bin .or (TT 163) (TT 173)), OA 175 (.j4 1 (TT 160) (TT 161)), OB (.store 1 (TT 175) (TT 174))]) .skip))))) (.reg [OA 176 (.bin .add (TT 146) (II 1)), MM
 146 176]))))))) (.seq (.reg [MM 177 4, MM 178 5, MM 4 177, MM 5 178]) .ret))))))))⟩
theorem b4Y : j6 eff Tryz.prog Tryz.f227 = some a7W := by kernel_rfl
theorem b5a : Tryz.prog.funcs[227]? = some Tryz.f227 := Tryz.func227
def a6u : l9 := ⟨36, [.tmp 2], .seq (.reg [OA 2 (.mv (.const (.slice none 0 0)))]) (.seq (.reg [MM 5 0, OA 6 (.len true (TT 5)), OA 7 (.bin .add (TT 6) (II 7)), OA 8 (.bin .quo (TT 7) (II 8)), OA 9 (.Z8 189 8 [.int .u64 0] (TT 8) (TT 8)), MM 3
 9]) (.seq (.seq (.reg [MM 10 0, OA 11 (.len true (TT 10)), OA 12 (.mv (II 0))]) (.block 0 (.loop (.seq (.reg [OA 13 (.bin .lss (TT 12) (TT 11))]) (.seq (.cond (TT 13) .skip (.exit 0)) (.seq (.block 1 (.seq (.reg [MM 14 12, MM 4
 14]) (.C9 [.q, .q, .q, .q, .q, .q, .q, .q, .q, .q, .q, .q, .q, .q, .q, .q, .q, .q, .q, .e none false] [MM 15 3, MM 16 4, OA 17 (.bin .quo (TT 16) (II 8)), OA 18 (.j4 1 (TT 15) (TT 17)), VV 19 18, MM 20 0, MM 21 0, OA 22
 (.len true (TT 21)), OA 23 (.bin .sub (TT 22) (II 1)), MM 24 4, OA 25 (.bin .sub (TT 23) (TT 24)), OA 26 (.idxs (TT 20) (TT 25)), OA 27 (.conv .u64 (TT 26)), MM 28 4, OA 29 (.bin .rem (TT 28) (II 8)), OA 30 (.bin .mul (TT 29)
 (II 8)), OA 31 (.bin .shl (TT 27) (TT 30)), OA 32 (.bin .or (TT 19) (TT 31)), OA 33 (.j4 1 (TT 15) (TT 17)), OB (.store 1 (TT 33) (TT 32))]))) (.reg [OA 34 (.bin .add (TT 12) (II 1)), MM 12 34]))))))) (.seq (.reg [MM 35 3, MM
 2 35]) .ret)))⟩
theorem b3o : j6 eff Tryz.prog Tryz.f238 = some a6u := by kernel_rfl
theorem b2p : Tryz.prog.funcs[238]? = some Tryz.f238 := Tryz.func238
def a6V : l9 := ⟨19, [.tmp 2], .seq (.reg [OA 2 (.mv (II 0))]) (.seq (.reg [OA 3 (.mv (II 0))]) (.seq (.block 0 (.loop (.seq (.seq (.reg [MM 4 0, MM 5 3, OA 6 (.j4 1 (TT 4) (TT 5)), VV 7 6, OA 8 (.bin .eql (TT 7) (.const (.int .u64 0)))])
 (.cond (TT 8) .skip (.exit 0))) (.block 1 (.reg [MM 9 3, OA 10 (.bin .add (TT 9) (II 1)), MM 3 10]))))) (.seq (.reg [MM 11 3, OA 12 (.bin .mul (II 64) (TT 11)), MM 13 0, MM 14 3, OA 15 (.j4 1 (TT 13) (TT 14)), VV 16 15, OA 17
 (.call 255 [TT 16]), OA 18 (.bin .add (TT 12) (TT 17)), MM 2 18]) .ret)))⟩
theorem b2b : j6 eff Tryz.prog Tryz.f239 = some a6V := by kernel_rfl
theorem b3y : Tryz.prog.funcs[239]? = some Tryz.f239 := Tryz.func239
def a6x : l9 := ⟨48, [.tmp 4], .seq (.reg [OA 4 (.mv (.const (.slice none 0 0)))]) (.seq (.reg [MM 6 0, MM 7 1, OA 8 (.bin .quo (TT 7) (II 64)), OA 9 (.a1R 1 (TT 6) (some (TT 8)) none), MM 0 9]) (.seq (.seq (.reg [MM 10 1, OA 11 (.bin .rem (TT
 10) (II 64)), MM 1 11]) (.seq (.reg [MM 12 1, OA 13 (.bin .gtr (TT 12) (II 0))]) (.cond (TT 13) (.seq (.reg [MM 14 0, OA 15 (.len false (TT 14)), OA 16 (.mv (II 0))]) (.block 0 (.loop (.seq (.reg [OA 17 (.bin .lss (TT 16) (TT
 15))]) (.seq (.cond (TT 17) .skip (.exit 0)) (.seq (.block 1 (.seq (.reg [MM 18 16, MM 5 18]) (.seq (.reg [MM 19 0, MM 20 5, OA 21 (.j4 1 (TT 19) (TT 20)), VV 22 21, MM 23 1, OA 24 (.bin .shr (TT 22) (TT 23)), OA 25 (.j4 1
 (TT 19) (TT 20)), OB (.store 1 (TT 25) (TT 24))]) (.seq (.reg [MM 26 5, OA 27 (.bin .add (TT 26) (II 1)), MM 28 0, OA 29 (.len false (TT 28)), OA 30 (.bin .lss (TT 27) (TT 29))]) (.cond (TT 30) (.C9 [.q, .q, .q, .q, .q, .q,
 .q, .q, .q, .q, .q, .q, .q, .q, .e none false] [MM 31 0, MM 32 5, OA 33 (.j4 1 (TT 31) (TT 32)), VV 34 33, MM 35 0, MM 36 5, OA 37 (.bin .add (TT 36) (II 1)), OA 38 (.j4 1 (TT 35) (TT 37)), VV 39 38, MM 40 1, OA 41 (.bin
 .sub (II 64) (TT 40)), OA 42 (.bin .shl (TT 39) (TT 41)), OA 43 (.bin .or (TT 34) (TT 42)), OA 44 (.j4 1 (TT 31) (TT 32)), OB (.store 1 (TT 44) (TT 43))]) .skip))))) (.reg [OA 45 (.bin .add (TT 16) (II 1)), MM 16 45])))))))
 .skip))) (.seq (.reg [MM 46 0, OA 47 (.call 256 [TT 46]), MM 4 47]) .ret)))⟩
theorem b3d : j6 eff Tryz.prog Tryz.f240 = some a6x := by kernel_rfl
theorem b3p : Tryz.prog.funcs[240]? = some Tryz.f240 := Tryz.func240
def a6X : l9 := ⟨41, [.tmp 4], .seq (.reg [OA 4 (.mv (.const (.bool false)))]) (.seq (.seq (.reg [MM 6 0, OA 7 (.len false (TT 6)), MM 8 1, OA 9 (.len false (TT 8)), OA 10 (.bin .neq (TT 7) (TT 9))]) (.cond (TT 10) (.seq (.reg [MM 11 0, OA 12
 (.len false (TT 11)), MM 13 1, OA 14 (.len false (TT 13)), OA 15 (.bin .lss (TT 12) (TT 14)), MM 4 15]) .ret) .skip)) (.seq (.seq (.reg [MM 16 0, OA 17 (.len false (TT 16)), OA 18 (.bin .sub (TT 17) (II 1)), MM 5 18]) (.block 0
 (.loop (.seq (.seq (.reg [MM 19 5, OA 20 (.bin .geq (TT 19) (II 0))]) (.cond (TT 20) .skip (.exit 0))) (.seq (.block 1 (.seq (.C9 [.q, .q, .q, .q, .q, .q, .q, .q, .q] [MM 23 0, MM 24 5, OA 25 (.j4 1 (TT 23) (TT 24)), VV 26
 25, MM 27 1, MM 28 5, OA 29 (.j4 1 (TT 27) (TT 28)), VV 30 29, OA 31 (.bin .neq (TT 26) (TT 30))]) (.cond (TT 31) (.seq (.C9 [.q, .q, .q, .q, .q, .q, .q, .q, .q, .q] [MM 32 0, MM 33 5, OA 34 (.j4 1 (TT 32) (TT 33)), VV
 35 34, MM 36 1, MM 37 5, OA 38 (.j4 1 (TT 36) (TT 37)), VV 39 38, OA 40 (.bin .lss (TT 35) (TT 39)), MM 4 40]) .ret) .skip))) (.reg [MM 21 5, OA 22 (.bin .sub (TT 21) (II 1)), MM 5 22])))))) (.seq (.reg [OA 4 (.mv (.const
 (.bool false)))]) .ret)))⟩
theorem b3Q : j6 eff Tryz.prog Tryz.f241 = some a6X := by kernel_rfl
theorem b2l : Tryz.prog.funcs[241]? = some Tryz.f241 := Tryz.func241
def a6h : l9 := ⟨37, [.tmp 4], .seq (.reg [OA 4 (.mv (.const (.slice none 0 0)))]) (.seq (.reg [OA 5 (.mv (.const (.int .u64 0)))]) (.seq (.seq (.reg [MM 8 0, OA 9 (.len false (TT 8)), OA 10 (.mv (II 0))]) (.block 0 (.loop (.seq (.reg [OA 11
 (.bin .lss (TT 10) (TT 9))]) (.seq (.cond (TT 11) .skip (.exit 0)) (.seq (.block 1 (.seq (.reg [MM 12 10, MM 6 12]) (.seq (.reg [OA 7 (.mv (.const (.int .u64 0)))]) (.seq (.seq (.reg [MM 13 6, MM 14 1, OA 15 (.len false (TT
 14)), OA 16 (.bin .lss (TT 13) (TT 15))]) (.cond (TT 16) (.reg [MM 17 1, MM 18 6, OA 19 (.j4 1 (TT 17) (TT 18)), VV 20 19, MM 7 20]) .skip)) (.reg [MM 22 0, MM 23 6, MM 24 0, MM 25 6, OA 26 (.j4 1 (TT 24) (TT 25)), VV 27
 26, MM 28 7, MM 29 5, OA 30 (.a2X (TT 27) (TT 28) (TT 29)), MM 21 30, OA 31 (.ext (TT 21) 0), OA 32 (.ext (TT 21) 1), OA 33 (.j4 1 (TT 22) (TT 23)), OB (.store 1 (TT 33) (TT 31)), MM 5 32]))))) (.reg [OA 34 (.bin .add (TT
 10) (II 1)), MM 10 34]))))))) (.seq (.reg [MM 35 0, OA 36 (.call 256 [TT 35]), MM 4 36]) .ret)))⟩
theorem b2k : j6 eff Tryz.prog Tryz.f242 = some a6h := by kernel_rfl
theorem b3m : Tryz.prog.funcs[242]? = some Tryz.f242 := Tryz.func242
def a7N : l9 := ⟨41, [.tmp 4], .seq (.reg [OA 4 (.mv (.const (.slice none 0 0)))]) (.seq (.reg [MM 9 0, OA 10 (.len false (TT 9)), OA 11 (.bin .add (TT 10) (II 1)), OA 12 (.Z8 240 4 [.int .u32 0] (TT 11) (TT 11)), MM 5 12]) (.seq (.seq (.reg
 [MM 13 0, OA 14 (.len false (TT 13)), OA 15 (.mv (II 0))]) (.block 0 (.loop (.seq (.reg [OA 16 (.bin .lss (TT 15) (TT 14))]) (.seq (.cond (TT 16) .skip (.exit 0)) (.seq (.block 1 (.seq (.reg [MM 17 15, OA 18 (.j4 1 (TT 13)
 (TT 15)), VV 19 18, MM 6 17, MM 7 19]) (.seq (.reg [MM 20 7, OA 21 (.conv .u64 (TT 20)), MM 22 1, OA 23 (.bin .shl (TT 21) (TT 22)), MM 8 23]) (.seq (.reg [MM 24 5, MM 25 6, OA 26 (.j4 1 (TT 24) (TT 25)), VV 27 26, MM 28 8,
 OA 29 (.conv .u32 (TT 28)), OA 30 (.bin .or (TT 27) (TT 29)), OA 31 (.j4 1 (TT 24) (TT 25)), OB (.store 1 (TT 31) (TT 30))]) (.reg [MM 32 5, MM 33 6, OA 34 (.bin .add (TT 33) (II 1)), MM 35 8, OA 36 (.bin .shr (TT 35) (.const
 (.int .u64 32))), OA 37 (.conv .u32 (TT 36)), OA 38 (.j4 1 (TT 32) (TT 34)), OB (.store 1 (TT 38) (TT 37))]))))) (.reg [OA 39 (.bin .add (TT 15) (II 1)), MM 15 39]))))))) (.seq (.reg [MM 40 5, MM 4 40]) .ret)))⟩
theorem b3U : j6 eff Tryz.prog Tryz.f245 = some a7N := by kernel_rfl
theorem b4c : Tryz.prog.funcs[245]? = some Tryz.f245 := Tryz.func245
def a3T : l9 := ⟨66, [.tmp 6], .seq (.reg [OA 6 (.mv (.const (.bool false)))]) (.seq (.reg [OA 7 (.mv (.const (.int .u64 0))), OA 8 (.mv (.const (.int .u64 0)))]) (.seq (.seq (.reg [MM 13 1, OA 14 (.len false (TT 13)), OA 15 (.mv (II 0))])
 (.block 0 (.loop (.seq (.reg [OA 16 (.bin .lss (TT 15) (TT 14))]) (.seq (.cond (TT 16) .skip (.exit 0)) (.seq (.block 1 (.seq (.reg [MM 17 15, OA 18 (.j4 1 (TT 13) (TT 15)), VV 19 18, MM 9 17, MM 10 19]) (.seq (.reg [MM 20 7,
 MM 21 2, MM 22 10, OA 23 (.conv .u64 (TT 22)), OA 24 (.bin .mul (TT 21) (TT 23)), OA 25 (.bin .add (TT 20) (TT 24)), MM 7 25]) (.seq (.reg [MM 26 0, MM 27 9, OA 28 (.j4 1 (TT 26) (TT 27)), VV 29 28, OA 30 (.conv .u64 (TT
 29)), MM 31 7, OA 32 (.conv .u32 (TT 31)), OA 33 (.conv .u64 (TT 32)), OA 34 (.bin .sub (TT 30) (TT 33)), MM 35 8, OA 36 (.bin .sub (TT 34) (TT 35)), MM 11 36]) (.seq (.reg [MM 37 0, MM 38 9, MM 39 11, OA 40 (.conv .u32 (TT
 39)), MM 41 11, OA 42 (.bin .shr (TT 41) (.const (.int .u64 63))), OA 43 (.j4 1 (TT 37) (TT 38)), OB (.store 1 (TT 43) (TT 40)), MM 8 42]) (.reg [MM 44 7, OA 45 (.bin .shr (TT 44) (.const (.int .u64 32))), MM 7 45]))))))
 (.reg [OA 46 (.bin .add (TT 15) (II 1)), MM 15 46]))))))) (.seq (.reg [MM 47 0, MM 48 1, OA 49 (.len false (TT 48)), OA 50 (.j4 1 (TT 47) (TT 49)), VV 51 50, OA 52 (.conv .u64 (TT 51)), MM 53 7, OA 54 (.bin .sub (TT 52) (TT
 53)), MM 55 8, OA 56 (.bin .sub (TT 54) (TT 55)), MM 12 56]) (.seq (.reg [MM 57 0, MM 58 1, OA 59 (.len false (TT 58)), MM 60 12, OA 61 (.conv .u32 (TT 60)), OA 62 (.j4 1 (TT 57) (TT 59)), OB (.store 1 (TT 62) (TT 61))])
 (.seq (.reg [MM 63 12, OA 64 (.bin .shr (TT 63) (.const (.int .u64 63))), OA 65 (.bin .gtr (TT 64) (.const (.int .u64 0))), MM 6 65]) .ret)))))⟩
theorem a8S : j6 eff Tryz.prog Tryz.f246 = some a3T := by kernel_rfl
theorem a9c : Tryz.prog.funcs[246]? = some Tryz.f246 := Tryz.func246
def a4I : l9 := ⟨41, [], .seq (.reg [OA 4 (.mv (.const (.int .u64 0)))]) (.seq (.seq (.reg [MM 7 1, OA 8 (.len false (TT 7)), OA 9 (.mv (II 0))]) (.block 0 (.loop (.seq (.reg [OA 10 (.bin .lss (TT 9) (TT 8))]) (.seq (.cond (TT 10) .skip (.exit
 0)) (.seq (.block 1 (.seq (.reg [MM 11 9, OA 12 (.j4 1 (TT 7) (TT 9)), VV 13 12, MM 5 11, MM 6 13]) (.seq (.reg [MM 14 4, MM 15 0, MM 16 5, OA 17 (.j4 1 (TT 15) (TT 16)), VV 18 17, OA 19 (.conv .u64 (TT 18)), MM 20 6, OA
 21 (.conv .u64 (TT 20)), OA 22 (.bin .add (TT 19) (TT 21)), OA 23 (.bin .add (TT 14) (TT 22)), MM 4 23]) (.seq (.reg [MM 24 0, MM 25 5, MM 26 4, OA 27 (.conv .u32 (TT 26)), OA 28 (.j4 1 (TT 24) (TT 25)), OB (.store 1 (TT 28)
 (TT 27))]) (.reg [MM 29 4, OA 30 (.bin .shr (TT 29) (.const (.int .u64 32))), MM 4 30]))))) (.reg [OA 31 (.bin .add (TT 9) (II 1)), MM 9 31]))))))) (.reg [MM 32 0, MM 33 1, OA 34 (.len false (TT 33)), OA 35 (.j4 1 (TT 32) (TT
 34)), VV 36 35, MM 37 4, OA 38 (.conv .u32 (TT 37)), OA 39 (.bin .add (TT 36) (TT 38)), OA 40 (.j4 1 (TT 32) (TT 34)), OB (.store 1 (TT 40) (TT 39))]))⟩
theorem b0q : j6 eff Tryz.prog Tryz.f247 = some a4I := by kernel_rfl
theorem b0p : Tryz.prog.funcs[247]? = some Tryz.f247 := Tryz.func247
def a9m : l9 := ⟨21, [.tmp 2], .seq (.reg [OA 2 (.mv (.const (.slice none 0 0)))]) (.seq (.block 0 (.loop (.seq (.seq (.reg [MM 3 0, OA 4 (.len false (TT 3)), OA 5 (.bin .gtr (TT 4) (II 0)), MM 6 5, MG 7 0 6 true, MG 8 0 6 true, OC 9 (.len false
 (TT 8)) 6 true, OC 10 (.bin .sub (TT 9) (II 1)) 6 true, OC 11 (.j4 1 (TT 7) (TT 10)) 6 true, VG 12 11 6 true, OC 13 (.bin .eql (TT 12) (.const (.int .u64 0))) 6 true, OA 14 (.pick (TT 6) (TT 13) (.const (.bool false)))])
 (.cond (TT 14) .skip (.exit 0))) (.block 1 (.reg [MM 15 0, MM 16 0, OA 17 (.len false (TT 16)), OA 18 (.bin .sub (TT 17) (II 1)), OA 19 (.a1R 1 (TT 15) none (some (TT 18))), MM 0 19]))))) (.seq (.reg [MM 20 0, MM 2 20]) .ret))⟩
theorem b5L : j6 eff Tryz.prog Tryz.f256 = some a9m := by kernel_rfl
theorem b6V : Tryz.prog.funcs[256]? = some Tryz.f256 := Tryz.func256
def a7Q : l9 := ⟨12, [.tmp 2], .seq (.reg [OA 1 (.box 29 (TT 0)), OA 2 (.mv (II 0))]) (.seq (.seq (.reg [LL 3 3 1, OA 4 (.call 76 [TT 3]), OB (.store 3 (TT 1) (TT 4))]) (.block 0 (.seq (.reg [FF 6 1 1, VV 7 6, OA 8 (.bin .eql (TT 7) (.const
 (.string ⟨#[]⟩))), MM 5 8]) (.cond (TT 5) (.seq (.reg [OA 2 (.mv (II 0))]) .ret) (.seq (.reg [FF 10 0 1, VV 11 10, MM 9 11]) (.cond (TT 9) (.seq (.reg [OA 2 (.mv (II (-1)))]) .ret) .skip)))))) (.seq (.reg [OA 2 (.mv (II 1))])
 .ret))⟩
theorem b4A : j6 eff Tryz.prog Tryz.f15 = some a7Q := by kernel_rfl
theorem b4L : Tryz.prog.funcs[15]? = some Tryz.f15 := Tryz.func15
def a8K : l9 := ⟨61, [.cell 4 true 3], .seq (.reg [OA 2 (.box 29 (TT 0)), OA 3 (.box 29 (TT 1)), OA 4 (.alloc 29 [.bool false, .string ⟨#[]⟩, .string ⟨#[]⟩])]) (.seq (.C9 [.q, .q, .q, .q, .e none false, .e none false] [LL 9 3 2, OA 10 (.call 76
 [TT 9]), LL 11 3 3, OA 12 (.call 76 [TT 11]), OB (.store 3 (TT 2) (TT 10)), OB (.store 3 (TT 3) (TT 12))]) (.seq (.seq (.reg [FF 13 2 2, VV 14 13, FF 15 2 3, VV 16 15, OA 17 (.bin .eql (TT 14) (TT 16))]) (.cond (TT 17) (.seq
 (.reg [FF 19 0 2, VV 20 19, FF 21 1 2, VV 22 21, FF 23 0 3, VV 24 23, FF 25 1 3, VV 26 25, OA 27 (.call 77 [TT 20, TT 22, TT 24, TT 26]), MM 18 27, OA 28 (.ext (TT 18) 0), OA 29 (.ext (TT 18) 1), MM 5 28, MM 6 29]) (.seq (.reg
 [MM 30 5, MM 31 6, FF 32 2 2, VV 33 32, OA 34 (.call 78 [TT 30, TT 31, TT 33]), OB (.store 3 (TT 4) (TT 34))]) .ret)) .skip)) (.seq (.C9 [.q, .q, .q, .q, .q, .q, .q, .q, .q, .q, .q, .q, .q, .q, .q, .q, .q, .q, .q, .q] [FF 36 0
 2, VV 37 36, FF 38 1 2, VV 39 38, FF 40 2 3, VV 41 40, OA 42 (.call 79 [TT 39, TT 41]), FF 43 0 3, VV 44 43, FF 45 1 3, VV 46 45, FF 47 2 2, VV 48 47, OA 49 (.call 79 [TT 46, TT 48]), OA 50 (.call 77 [TT 37, TT 42, TT 44, TT
 49]), MM 35 50, OA 51 (.ext (TT 35) 0), OA 52 (.ext (TT 35) 1), MM 7 51, MM 8 52]) (.seq (.reg [MM 53 7, MM 54 8, FF 55 2 2, VV 56 55, FF 57 2 3, VV 58 57, OA 59 (.call 79 [TT 56, TT 58]), OA 60 (.call 78 [TT 53, TT 54, TT 59]),
 OB (.store 3 (TT 4) (TT 60))]) .ret))))⟩
theorem b7s : j6 eff Tryz.prog Tryz.f16 = some a8K := by kernel_rfl
theorem b6s : Tryz.prog.funcs[16]? = some Tryz.f16 := Tryz.func16
def a9C : l9 := ⟨33, [.tmp 4], .seq (.reg [OA 2 (.box 29 (TT 0)), OA 3 (.box 29 (TT 1)), OA 4 (.mv (II 0))]) (.seq (.C9 [.q, .q, .q, .q, .e none false, .e none false] [LL 6 3 2, OA 7 (.call 76 [TT 6]), LL 8 3 3, OA 9 (.call 76 [TT 8]), OB
 (.store 3 (TT 2) (TT 7)), OB (.store 3 (TT 3) (TT 9))]) (.seq (.seq (.reg [FF 10 0 2, VV 11 10, FF 12 0 3, VV 13 12, OA 14 (.beq true (TT 11) (TT 13))]) (.cond (TT 14) (.seq (.seq (.reg [FF 15 0 2, VV 16 15]) (.cond (TT 16)
 (.seq (.reg [OA 4 (.mv (II (-1)))]) .ret) .skip)) (.seq (.reg [OA 4 (.mv (II 1))]) .ret)) .skip)) (.seq (.C9 [.q, .q, .q, .q, .q, .q, .q, .q, .q, .q, .q, .q] [FF 17 1 2, VV 18 17, FF 19 2 3, VV 20 19, OA 21 (.call 79 [TT 18,
 TT 20]), FF 22 1 3, VV 23 22, FF 24 2 2, VV 25 24, OA 26 (.call 79 [TT 23, TT 25]), OA 27 (.call 156 [TT 21, TT 26]), MM 5 27]) (.seq (.seq (.reg [FF 28 0 2, VV 29 28]) (.cond (TT 29) (.seq (.reg [MM 30 5, OA 31 (.un .neg (TT
 30)), MM 4 31]) .ret) .skip)) (.seq (.reg [MM 32 5, MM 4 32]) .ret)))))⟩
theorem b6U : j6 eff Tryz.prog Tryz.f52 = some a9C := by kernel_rfl
theorem b6A : Tryz.prog.funcs[52]? = some Tryz.f52 := Tryz.func52
def a7Y : l9 := ⟨48, [.tmp 2], .seq (.reg [OA 1 (.box 29 (TT 0)), OA 2 (.mv (.const (.bool false)))]) (.seq (.seq (.reg [FF 3 2 1, VV 4 3, OA 5 (.bin .eql (TT 4) (.const (.string ⟨#[]⟩))), MM 6 5, FG 7 2 1 6 false, VG 8 7 6 false, OC 9 (.idxs (TT
 8) (II 0)) 6 false, OC 10 (.bin .eql (TT 9) (.const (.int .u8 0))) 6 false, OA 11 (.pick (TT 6) (.const (.bool true)) (TT 10)), MM 12 11, FG 13 1 1 12 false, VG 14 13 12 false, OC 15 (.bin .eql (TT 14) (.const (.string ⟨#[]⟩)))
 12 false, MG 16 15 12 false, FG 17 0 1 16 true, VG 18 17 16 true, MG 19 18 16 true, FG 20 2 1 19 false, VG 21 20 19 false, OC 22 (.bin .neq (TT 21) (.const (.string ⟨#[1]⟩))) 19 false, OC 23 (.pick (TT 19) (.const (.bool true))
 (TT 22)) 16 true, OC 24 (.pick (TT 16) (TT 23) (.const (.bool false))) 12 false, OA 25 (.pick (TT 12) (.const (.bool true)) (TT 24)), MM 26 25, FG 27 1 1 26 false, VG 28 27 26 false, OC 29 (.bin .neq (TT 28) (.const (.string
 ⟨#[]⟩))) 26 false, MG 30 29 26 false, FG 31 1 1 30 true, VG 32 31 30 true, OC 33 (.idxs (TT 32) (II 0)) 30 true, OC 34 (.bin .eql (TT 33) (.const (.int .u8 0))) 30 true, OC 35 (.pick (TT 30) (TT 34) (.const (.bool false))) 26
 false, OA 36 (.pick (TT 26) (.const (.bool true)) (TT 35))]) (.cond (TT 36) (.seq (.reg [OA 2 (.mv (.const (.bool false)))]) .ret) .skip)) (.seq (.reg [FF 37 2 1, VV 38 37, OA 39 (.bin .eql (TT 38) (.const (.string ⟨#[1]⟩))), MM
 40 39, FG 41 1 1 40 false, VG 42 41 40 false, FG 43 2 1 40 false, VG 44 43 40 false, OC 45 (.call 167 [TT 42, TT 44]) 40 false, OC 46 (.bin .eql (TT 45) (.const (.string ⟨#[1]⟩))) 40 false, OA 47 (.pick (TT 40) (.const (.bool
 true)) (TT 46)), MM 2 47]) .ret))⟩
theorem b4E : j6 eff Tryz.prog Tryz.f62 = some a7Y := by kernel_rfl
theorem b4k : Tryz.prog.funcs[62]? = some Tryz.f62 := Tryz.func62
def b0Y : l9 := ⟨14, [.cell 2 true 3], .seq (.reg [OA 2 (.alloc 29 [.bool false, .string ⟨#[]⟩, .string ⟨#[]⟩])]) (.seq (.seq (.reg [MM 3 0, OA 4 (.bin .geq (TT 3) (II 0))]) (.cond (TT 4) (.seq (.reg [MM 5 0, OA 6 (.call 178 [TT 5]), OA 7 (.call
 78 [.const (.bool false), TT 6, .const (.string ⟨#[1]⟩)]), OB (.store 3 (TT 2) (TT 7))]) .ret) .skip)) (.seq (.reg [MM 8 0, OA 9 (.bin .add (TT 8) (II 1)), OA 10 (.un .neg (TT 9)), OA 11 (.call 178 [TT 10]), OA 12 (.call 179 [TT
 11, .const (.string ⟨#[1]⟩)]), OA 13 (.call 78 [.const (.bool true), TT 12, .const (.string ⟨#[1]⟩)]), OB (.store 3 (TT 2) (TT 13))]) .ret))⟩
theorem b8e : j6 eff Tryz.prog Tryz.f71 = some b0Y := by kernel_rfl
theorem b8X : Tryz.prog.funcs[71]? = some Tryz.f71 := Tryz.func71
def a9s : l9 := ⟨13, [.cell 4 true 3], .seq (.reg [OA 2 (.box 29 (TT 0)), OA 3 (.box 29 (TT 1)), OA 4 (.alloc 29 [.bool false, .string ⟨#[]⟩, .string ⟨#[]⟩])]) (.seq (.seq (.reg [LL 5 3 2, LL 6 3 3, OA 7 (.call 52 [TT 5, TT 6]), OA 8 (.bin .geq
 (TT 7) (II 0))]) (.cond (TT 8) (.seq (.reg [LL 9 3 2, OA 10 (.call 76 [TT 9]), OB (.store 3 (TT 4) (TT 10))]) .ret) .skip)) (.seq (.reg [LL 11 3 3, OA 12 (.call 76 [TT 11]), OB (.store 3 (TT 4) (TT 12))]) .ret))⟩
theorem b6r : j6 eff Tryz.prog Tryz.f74 = some a9s := by kernel_rfl
theorem b6j : Tryz.prog.funcs[74]? = some Tryz.f74 := Tryz.func74
def a9h : l9 := ⟨7, [.cell 2 true 3], .seq (.reg [OA 1 (.box 29 (TT 0)), OA 2 (.alloc 29 [.bool false, .string ⟨#[]⟩, .string ⟨#[]⟩])]) (.seq (.reg [LL 3 3 1, OA 4 (.call 76 [TT 3]), OB (.store 3 (TT 1) (TT 4))]) (.seq (.reg [FF 5 0 1, OB (.store
 1 (TT 5) (.const (.bool false)))]) (.seq (.reg [LL 6 3 1, OB (.store 3 (TT 2) (TT 6))]) .ret)))⟩
theorem b6L : j6 eff Tryz.prog Tryz.f75 = some a9h := by kernel_rfl
theorem b7t : Tryz.prog.funcs[75]? = some Tryz.f75 := Tryz.func75
def a5r : l9 := ⟨8, [.cell 2 true 3], .seq (.reg [OA 1 (.box 29 (TT 0)), OA 2 (.alloc 29 [.bool false, .string ⟨#[]⟩, .string ⟨#[]⟩])]) (.seq (.seq (.reg [LL 3 3 1, OA 4 (.call 62 [TT 3]), OA 5 (.un .not (TT 4))]) (.cond (TT 5) (.seq (.reg [OA 6
 (.call 181 []), OB (.store 3 (TT 2) (TT 6))]) .ret) .skip)) (.seq (.reg [LL 7 3 1, OB (.store 3 (TT 2) (TT 7))]) .ret))⟩
theorem b7d : j6 eff Tryz.prog Tryz.f76 = some a5r := by kernel_rfl
theorem b6F : Tryz.prog.funcs[76]? = some Tryz.f76 := Tryz.func76
def a5R : l9 := ⟨39, [.tmp 8, .tmp 9], .seq (.reg [OA 8 (.mv (.const (.bool false))), OA 9 (.mv (.const (.string ⟨#[]⟩)))]) (.seq (.seq (.reg [MM 14 0, MM 15 2, OA 16 (.beq false (TT 14) (TT 15))]) (.cond (TT 16) (.seq (.reg [MM 17 0, MM 18 1, MM
 19 3, OA 20 (.call 179 [TT 18, TT 19]), MM 8 17, MM 9 20]) .ret) .skip)) (.seq (.seq (.reg [MM 22 1, MM 23 3, OA 24 (.call 182 [TT 22, TT 23]), MM 21 24, OA 25 (.ext (TT 21) 0), OA 26 (.ext (TT 21) 1), MM 10 25, MM 11 26]) (.seq
 (.reg [MM 27 11, OA 28 (.bin .eql (TT 27) (II 0))]) (.cond (TT 28) (.seq (.reg [MM 29 0, MM 30 10, MM 8 29, MM 9 30]) .ret) .skip))) (.seq (.reg [MM 32 3, MM 33 1, OA 34 (.call 182 [TT 32, TT 33]), MM 31 34, OA 35 (.ext (TT 31)
 0), OA 36 (.ext (TT 31) 1), MM 12 35, MM 13 36]) (.seq (.reg [MM 37 2, MM 38 12, MM 8 37, MM 9 38]) .ret))))⟩
theorem b1K : j6 eff Tryz.prog Tryz.f77 = some a5R := by kernel_rfl
theorem b1w : Tryz.prog.funcs[77]? = some Tryz.f77 := Tryz.func77
def a8e : l9 := ⟨36, [.cell 6 true 3], .seq (.reg [OA 6 (.alloc 29 [.bool false, .string ⟨#[]⟩, .string ⟨#[]⟩])]) (.seq (.seq (.reg [MM 8 1, OA 9 (.bin .eql (TT 8) (.const (.string ⟨#[]⟩)))]) (.cond (TT 9) (.seq (.reg [OA 10 (.call 181 []), OB
 (.store 3 (TT 6) (TT 10))]) .ret) .skip)) (.seq (.seq (.reg [MM 11 2, OA 12 (.bin .neq (TT 11) (.const (.string ⟨#[1]⟩)))]) (.cond (TT 12) (.seq (.reg [MM 13 1, MM 14 2, OA 15 (.call 167 [TT 13, TT 14]), MM 7 15]) (.seq (.reg
 [MM 16 7, OA 17 (.bin .neq (TT 16) (.const (.string ⟨#[1]⟩)))]) (.cond (TT 17) (.seq (.reg [MM 19 1, MM 20 7, OA 21 (.call 183 [TT 19, TT 20]), MM 18 21, OA 22 (.ext (TT 18) 0), OA 23 (.ext (TT 18) 1), OA 24 (.ext (TT 18) 2), MM
 1 22]) (.reg [MM 26 2, MM 27 7, OA 28 (.call 183 [TT 26, TT 27]), MM 25 28, OA 29 (.ext (TT 25) 0), OA 30 (.ext (TT 25) 1), OA 31 (.ext (TT 25) 2), MM 2 29])) .skip))) .skip)) (.seq (.reg [MM 32 0, MM 33 1, MM 34 2, OA 35
 (.build [.bool false, .string ⟨#[]⟩, .string ⟨#[]⟩] [(0, (1, TT 32)), (1, (1, TT 33)), (2, (1, TT 34))]), OB (.store 3 (TT 6) (TT 35))]) .ret)))⟩
theorem b3V : j6 eff Tryz.prog Tryz.f78 = some a8e := by kernel_rfl
theorem b3Z : Tryz.prog.funcs[78]? = some Tryz.f78 := Tryz.func78
def a6q : l9 := ⟨31, [.tmp 2], .seq (.reg [OA 1 (.box 29 (TT 0)), OA 2 (.mv (.const (.bool false)))]) (.seq (.C9 [.q, .q, .q, .q, .q, .q, .q, .q, .q, .q, .q, .q, .q, .q, .q, .q, .q, .q, .q, .q, .q, .q, .q, .q, .q, .q, .q, .q, .q] [FF 3 1 1, VV
 4 3, OA 5 (.len true (TT 4)), OA 6 (.bin .leq (TT 5) (II 3)), MM 7 6, FG 8 2 1 7 true, VG 9 8 7 true, OC 10 (.len true (TT 9)) 7 true, OC 11 (.bin .leq (TT 10) (II 2)) 7 true, OA 12 (.pick (TT 7) (TT 11) (.const (.bool false))),
 MM 13 12, LG 14 3 1 13 true, OC 15 (.call 62 [TT 14]) 13 true, OA 16 (.pick (TT 13) (TT 15) (.const (.bool false))), MM 17 16, FG 18 1 1 17 true, VG 19 18 17 true, OC 20 (.call 178 [II 1000000]) 17 true, OC 21 (.call 156 [TT 19,
 TT 20]) 17 true, OC 22 (.bin .leq (TT 21) (II 0)) 17 true, OA 23 (.pick (TT 17) (TT 22) (.const (.bool false))), MM 24 23, FG 25 2 1 24 true, VG 26 25 24 true, OC 27 (.call 178 [II 1000]) 24 true, OC 28 (.call 156 [TT 26, TT
 27]) 24 true, OC 29 (.bin .leq (TT 28) (II 0)) 24 true, OA 30 (.pick (TT 24) (TT 29) (.const (.bool false))), MM 2 30]) .ret)⟩
theorem b3v : j6 eff Tryz.prog Tryz.f84 = some a6q := by kernel_rfl
theorem b1Y : Tryz.prog.funcs[84]? = some Tryz.f84 := Tryz.func84
def a8L : l9 := ⟨15, [.cell 2 true 3], .seq (.reg [OA 1 (.box 29 (TT 0)), OA 2 (.alloc 29 [.bool false, .string ⟨#[]⟩, .string ⟨#[]⟩])]) (.seq (.reg [LL 3 3 1, OA 4 (.call 76 [TT 3]), OB (.store 3 (TT 1) (TT 4))]) (.seq (.reg [FF 5 0 1, VV 6 5,
 OA 7 (.un .not (TT 6)), MM 8 7, FG 9 1 1 8 true, VG 10 9 8 true, OC 11 (.bin .neq (TT 10) (.const (.string ⟨#[]⟩))) 8 true, OA 12 (.pick (TT 8) (TT 11) (.const (.bool false))), FF 13 0 1, OB (.store 1 (TT 13) (TT 12))]) (.seq
 (.reg [LL 14 3 1, OB (.store 3 (TT 2) (TT 14))]) .ret)))⟩
theorem b7h : j6 eff Tryz.prog Tryz.f142 = some a8L := by kernel_rfl
theorem b6i : Tryz.prog.funcs[142]? = some Tryz.f142 := Tryz.func142
def a9f : l9 := ⟨13, [.cell 4 true 3], .seq (.reg [OA 2 (.box 29 (TT 0)), OA 3 (.box 29 (TT 1)), OA 4 (.alloc 29 [.bool false, .string ⟨#[]⟩, .string ⟨#[]⟩])]) (.seq (.seq (.reg [LL 5 3 2, LL 6 3 3, OA 7 (.call 52 [TT 5, TT 6]), OA 8 (.bin .leq
 (TT 7) (II 0))]) (.cond (TT 8) (.seq (.reg [LL 9 3 2, OA 10 (.call 76 [TT 9]), OB (.store 3 (TT 4) (TT 10))]) .ret) .skip)) (.seq (.reg [LL 11 3 3, OA 12 (.call 76 [TT 11]), OB (.store 3 (TT 4) (TT 12))]) .ret))⟩
theorem b6Q : j6 eff Tryz.prog Tryz.f153 = some a9f := by kernel_rfl
theorem b6Z : Tryz.prog.funcs[153]? = some Tryz.f153 := Tryz.func153
def a9O : l9 := ⟨9, [.cell 4 true 3], .seq (.reg [OA 2 (.box 29 (TT 0)), OA 3 (.box 29 (TT 1)), OA 4 (.alloc 29 [.bool false, .string ⟨#[]⟩, .string ⟨#[]⟩])]) (.seq (.C9 [.q, .q, .q, .q, .e none false] [LL 5 3 2, LL 6 3 3, OA 7 (.call 142 [TT
 6]), OA 8 (.call 16 [TT 5, TT 7]), OB (.store 3 (TT 4) (TT 8))]) .ret)⟩
theorem b7c : j6 eff Tryz.prog Tryz.f158 = some a9O := by kernel_rfl
theorem b7b : Tryz.prog.funcs[158]? = some Tryz.f158 := Tryz.func158
def a8T : l9 := ⟨25, [.cell 4 true 3], .seq (.reg [OA 2 (.box 29 (TT 0)), OA 3 (.box 29 (TT 1)), OA 4 (.alloc 29 [.bool false, .string ⟨#[]⟩, .string ⟨#[]⟩])]) (.seq (.C9 [.q, .q, .q, .q, .e none false, .e none false] [LL 5 3 2, OA 6 (.call 76
 [TT 5]), LL 7 3 3, OA 8 (.call 76 [TT 7]), OB (.store 3 (TT 2) (TT 6)), OB (.store 3 (TT 3) (TT 8))]) (.seq (.C9 [.q, .q, .q, .q, .q, .q, .q, .q, .q, .q, .q, .q, .q, .q, .q, .q, .e none false] [FF 9 0 2, VV 10 9, FF 11 0 3, VV
 12 11, OA 13 (.beq true (TT 10) (TT 12)), FF 14 1 2, VV 15 14, FF 16 1 3, VV 17 16, OA 18 (.call 79 [TT 15, TT 17]), FF 19 2 2, VV 20 19, FF 21 2 3, VV 22 21, OA 23 (.call 79 [TT 20, TT 22]), OA 24 (.call 78 [TT 13, TT 18, TT
 23]), OB (.store 3 (TT 4) (TT 24))]) .ret))⟩
theorem b6u : j6 eff Tryz.prog Tryz.f172 = some a8T := by kernel_rfl
theorem b5R : Tryz.prog.funcs[172]? = some Tryz.f172 := Tryz.func172
def a7V : l9 := ⟨2, [.cell 0 true 3], .seq (.reg [OA 0 (.alloc 29 [.bool false, .string ⟨#[]⟩, .string ⟨#[]⟩])]) (.seq (.reg [OA 1 (.build [.bool false, .string ⟨#[]⟩, .string ⟨#[]⟩] [(2, (1, .const (.string ⟨#[1]⟩)))]), OB (.store 3 (TT 0) (TT
 1))]) .ret)⟩
theorem b4M : j6 eff Tryz.prog Tryz.f181 = some a7V := by kernel_rfl
theorem b4n : Tryz.prog.funcs[181]? = some Tryz.f181 := Tryz.func181
def a9l : l9 := ⟨30, [.cell 4 true 3, .tmp 5], .seq (.reg [OA 2 (.box 29 (TT 0)), OA 3 (.box 29 (TT 1)), OA 4 (.alloc 29 [.bool false, .string ⟨#[]⟩, .string ⟨#[]⟩]), OA 5 (.mv (II 0))]) (.seq (.C9 [.q, .q, .q, .q, .e none false, .e none false]
 [LL 6 3 2, OA 7 (.call 76 [TT 6]), LL 8 3 3, OA 9 (.call 76 [TT 8]), OB (.store 3 (TT 2) (TT 7)), OB (.store 3 (TT 3) (TT 9))]) (.seq (.seq (.reg [FF 10 1 3, VV 11 10, OA 12 (.bin .eql (TT 11) (.const (.string ⟨#[]⟩)))]) (.cond
 (TT 12) (.seq (.reg [OA 13 (.build [.bool false, .string ⟨#[]⟩, .string ⟨#[]⟩] []), OB (.store 3 (TT 4) (TT 13)), OA 5 (.mv (II 12))]) .ret) .skip)) (.seq (.C9 [.q, .q, .q, .q, .q, .q, .q, .q, .q, .q, .q, .q, .q, .q, .q, .q,
 .e none false, .q] [FF 14 0 2, VV 15 14, FF 16 0 3, VV 17 16, OA 18 (.beq true (TT 15) (TT 17)), FF 19 1 2, VV 20 19, FF 21 2 3, VV 22 21, OA 23 (.call 79 [TT 20, TT 22]), FF 24 2 2, VV 25 24, FF 26 1 3, VV 27 26, OA 28 (.call
 79 [TT 25, TT 27]), OA 29 (.call 78 [TT 18, TT 23, TT 28]), OB (.store 3 (TT 4) (TT 29)), OA 5 (.mv (II 0))]) .ret)))⟩
theorem b5Z : j6 eff Tryz.prog Tryz.f223 = some a9l := by kernel_rfl
theorem b6K : Tryz.prog.funcs[223]? = some Tryz.f223 := Tryz.func223
open Go Go.RowKit Eng
set_option maxRecDepth 10000
set_option maxHeartbeats 1000000
theorem a7p (b : UInt8) : ((b.toNat : Int) = 0) = (b = 0) := propext ⟨fun h => UInt8.toNat.inj (by simp; omega), fun h => by subst h; rfl⟩
theorem a9a {α : Type} (x : α) (l : List α) : List.drop (Int.toNat 1) (List.take (l.length + 1) (x :: l)) = l := by simp
theorem b1k (v : Nat) (b : UInt8) : bits .or .u64 (IntKind.u64.wrap (((v % 18446744073709551616 : Nat) : Int) * 256)) (IntKind.u64.wrap ((b.toNat : Nat) : Int)) = (((256 * v + b.toNat) % 18446744073709551616 : Nat) : Int) := by
 have hb := b.toNat_lt
 have h1 : IntKind.u64.wrap (((v % 18446744073709551616 : Nat) : Int) * 256) = ((v % 18446744073709551616 * 256 % 18446744073709551616 : Nat) : Int) := by rw [<- a3I]; rfl
 rw [h1, a3I, a9i _ _ (by omega) (by omega), Nat.mod_eq_of_lt (a := b.toNat) (by omega), Nm.b7a _ _ (by omega)]
theorem a0f (l : List UInt8) (hl : l.length <= 1099511627776) : r9 Tryz.prog 184 [sb l] (sb (Nm.trim l)) := by
  refine r9.of b4s b4P (by exact Nat.le_of_ble_eq_true rfl) fun w O => ?_
  simp only [a8b, l5, TT, II, OA, OB, OC, MM, LL, VV, FF, MG, LG, VG, FG, sb]
  (repeat first | refine uA ?_ | (apply S.exit; exact rfl) | (refine uK ?_ ?_; focus first | omega | trivial | exact id | (intro h; rw [h]; rfl) | (intro h h2; rw [h, h2]; rfl) | (intro h; (try simp at h); omega) | (intros; simp_all <;> omega)) | simp only [go_sem, Nat.reduceBEq, Nat.reduceAdd, Nat.reduceLeDiff, Int.reduceToNat, Int.reducePow] | simp (disch := omega) only [ww])
  refine S.loop (X := List UInt8) (fun m => ⟨[(0, sb m)], []⟩) (fun m => Nm.trim m = Nm.trim l) (fun m => m.length) l rfl (by (repeat first | refine uA ?_ | (refine ⟨?_, ?_⟩; focus first | rfl | trivial | (simp [slot]; done)) | rfl | trivial | simp)) ?_
  intro m hm
  cases m with
  | nil =>
    simp only [sb]
    (repeat first | refine uA ?_ | (apply S.exit; exact rfl) | (refine uK ?_ ?_; focus first | omega | trivial | exact id | (intro h; rw [h]; rfl) | (intro h h2; rw [h, h2]; rfl) | (intro h; (try simp at h); omega) | (intros; simp_all <;> omega)) | simp only [go_sem, Nat.reduceBEq, Nat.reduceAdd, Nat.reduceLeDiff, Int.reduceToNat, Int.reducePow, y8, List.length_nil] | simp (disch := omega) only [ww, y8, List.length_nil])
    (refine uJ rfl (fun hc => ?_) fun hc => ?_)
    · omega
    rw [<- hm]
    (repeat first | refine uA ?_ | (apply S.exit; exact rfl) | (refine uK ?_ ?_; focus first | omega | trivial | exact id | (intro h; rw [h]; rfl) | (intro h h2; rw [h, h2]; rfl) | (intro h; (try simp at h); omega) | (intros; simp_all <;> omega)) | simp only [go_sem, Nat.reduceBEq, Nat.reduceAdd, Nat.reduceLeDiff, Int.reduceToNat, Int.reducePow] | simp (disch := omega) only [ww])
    exact S.done (d9.out rfl (Imp.refl rfl) rfl)
  | cons b m =>
    simp only [sb]
    (repeat first | refine uA ?_ | (apply S.exit; exact rfl) | (refine uK ?_ ?_; focus first | omega | trivial | exact id | (intro h; rw [h]; rfl) | (intro h h2; rw [h, h2]; rfl) | (intro h; (try simp at h); omega) | (intros; simp_all <;> omega)) | simp only [go_sem, Nat.reduceBEq, Nat.reduceAdd, Nat.reduceLeDiff, Int.reduceToNat, Int.reducePow, y8, M5, List.length_cons, List.getD_cons_zero, a8V, a7p] | simp (disch := omega) only [ww, y8, M5, List.length_cons, List.getD_cons_zero, a8V, a7p])
    (refine uJ rfl (fun hc => ?_) fun hc => ?_)
    · obtain ⟨_, rfl⟩ := hc
      have hm2 : Nm.trim m = Nm.trim l := by rw [<- hm]; rfl
      (repeat first | refine uA ?_ | (apply S.exit; exact rfl) | (refine uK ?_ ?_; focus first | omega | trivial | exact id | (intro h; rw [h]; rfl) | (intro h h2; rw [h, h2]; rfl) | (intro h; (try simp at h); omega) | (intros; simp_all <;> omega)) | simp only [go_sem, Nat.reduceBEq, Nat.reduceAdd, Nat.reduceLeDiff, Int.reduceToNat, Int.reducePow, y8, M5, List.length_cons, a8V, List.take_length, List.take_succ_cons, List.drop_succ_cons, Int.toNat_natCast, a9a] | simp (disch := omega) only [ww, y8, M5, List.length_cons, a8V, List.take_length, List.take_succ_cons, List.drop_succ_cons, Int.toNat_natCast, a9a])
      refine S.next (m := List.length) (x := 0 :: m) m hm2 (by simp) (by exact (by (repeat first | refine uA ?_ | (refine ⟨?_, ?_⟩; focus first | rfl | trivial | (simp [slot]; done)) | rfl | trivial | simp)))
    · have hb : b ≠ 0 := by
        intro hb
        rcases hc with hc | hc
        · omega
        · exact hc hb
      have he : Nm.trim l = b :: m := by rw [<- hm]; unfold Nm.trim; rw [if_neg hb]
      rw [he]
      (repeat first | refine uA ?_ | (apply S.exit; exact rfl) | (refine uK ?_ ?_; focus first | omega | trivial | exact id | (intro h; rw [h]; rfl) | (intro h h2; rw [h, h2]; rfl) | (intro h; (try simp at h); omega) | (intros; simp_all <;> omega)) | simp only [go_sem, Nat.reduceBEq, Nat.reduceAdd, Nat.reduceLeDiff, Int.reduceToNat, Int.reducePow] | simp (disch := omega) only [ww])
      exact S.done (d9.out rfl (Imp.refl rfl) rfl)
theorem a1z (l : List UInt8) (hl : l.length <= 1099511627776) : r9 Tryz.prog 186 [sb l] (.v (.int .u64 ((Nm.val l % 18446744073709551616 : Nat) : Int))) := by
 refine r9.of b3n b3C (by exact Nat.le_of_ble_eq_true rfl) fun w O => ?_
 simp only [a6s, l5, TT, II, OA, OB, OC, MM, LL, VV, FF, MG, LG, VG, FG, sb]
 (repeat first | refine uA ?_ | (apply S.exit; exact rfl) | (refine uK ?_ ?_; focus first | omega | trivial | exact id | (intro h; rw [h]; rfl) | (intro h h2; rw [h, h2]; rfl) | (intro h; (try simp at h); omega) | (intros; simp_all <;> omega)) | simp only [go_sem, Nat.reduceBEq, Nat.reduceAdd, Nat.reduceLeDiff, Int.reduceToNat, Int.reducePow, y8] | simp (disch := omega) only [ww, y8])
 refine S.loop (X := Nat) (fun i => ⟨[(0, sb l), (3, .v (.int .u64 ((Nm.val (l.take i) % 18446744073709551616 : Nat) : Int))), (6, ints l.length), (7, ints i)], []⟩) (fun i => i <= l.length) (fun i => l.length - i) 0 (Nat.zero_le _) (by (repeat first | refine uA ?_ | (refine ⟨?_, ?_⟩; focus first | rfl | trivial | (simp [slot]; done)) | rfl | trivial | simp)) ?_
 intro i hi
 simp only [sb, ints]
 (repeat first | refine uA ?_ | (apply S.exit; exact rfl) | (refine uK ?_ ?_; focus first | omega | trivial | exact id | (intro h; rw [h]; rfl) | (intro h h2; rw [h, h2]; rfl) | (intro h; (try simp at h); omega) | (intros; simp_all <;> omega)) | simp only [go_sem, Nat.reduceBEq, Nat.reduceAdd, Nat.reduceLeDiff, Int.reduceToNat, Int.reducePow] | simp (disch := omega) only [ww])
 (refine uJ rfl (fun hc => ?_) fun hc => ?_)
 ·have hi' : i < l.length := by omega
  have hg : l.getD i 0 = l[i] := by rw [List.getD_eq_getElem?_getD, List.getElem?_eq_getElem hi']; rfl
  have hv : Nm.val (l.take (i + 1)) = 256 * Nm.val (l.take i) + l[i].toNat := by rw [List.take_succ_eq_append_getElem hi', Nm.b3N]
  have hb := l[i].toNat_lt
  (repeat first | refine uA ?_ | (apply S.exit; exact rfl) | (refine uK ?_ ?_; focus first | omega | trivial | exact id | (intro h; rw [h]; rfl) | (intro h h2; rw [h, h2]; rfl) | (intro h; (try simp at h); omega) | (intros; simp_all <;> omega)) | simp only [go_sem, Nat.reduceBEq, Nat.reduceAdd, Nat.reduceLeDiff, Int.reduceToNat, Int.reducePow, y8, M5, hg, b1k] | simp (disch := omega) only [ww, y8, M5, hg, b1k])
  refine S.next (i + 1) hi' (by omega) (by rw [hv]; exact (by (repeat first | refine uA ?_ | (refine ⟨?_, ?_⟩; focus first | rfl | trivial | (simp [slot]; done)) | rfl | trivial | simp)))
 ·have hi' : i = l.length := by omega
  subst hi'
  rw [List.take_length]
  (repeat first | refine uA ?_ | (apply S.exit; exact rfl) | (refine uK ?_ ?_; focus first | omega | trivial | exact id | (intro h; rw [h]; rfl) | (intro h h2; rw [h, h2]; rfl) | (intro h; (try simp at h); omega) | (intros; simp_all <;> omega)) | simp only [go_sem, Nat.reduceBEq, Nat.reduceAdd, Nat.reduceLeDiff, Int.reduceToNat, Int.reducePow] | simp (disch := omega) only [ww])
  exact S.done (d9.out rfl (Imp.refl rfl) rfl)
def b8 (n i : Nat) : List C := ((Nm.be8 n).take i ++ List.replicate (8 - i) 0).map fun b : UInt8 => .v (.int .u8 ((b.toNat : Nat) : Int))
theorem a5G (n k : Nat) : IntKind.u8.wrap (Int.fdiv (n : Int) (k : Int)) = (((Nm.oB (n / k)).toNat : Nat) : Int) := by
 rw [a1r, a2v, Nm.a1h]
theorem b8C (n i : Nat) (h : i <= 8) : (b8 n i).length = 8 := by simp [b8, Nm.be8]; omega
theorem c1u (n : Nat) : b8 n 0 = [.v (.int .u8 0), .v (.int .u8 0), .v (.int .u8 0), .v (.int .u8 0), .v (.int .u8 0), .v (.int .u8 0), .v (.int .u8 0), .v (.int .u8 0)] := rfl
theorem c1G (n i : Nat) (h : i < 8) : (b8 n i).take i ++ [C.v (.int .u8 (IntKind.u8.wrap (Int.fdiv (n : Int) (2 ^ min (56 - 8 * (i : Int)).toNat 64))))] ++ (b8 n i).drop (i + 1) = b8 n (i + 1) := by
 have : i = 0 \/ i = 1 \/ i = 2 \/ i = 3 \/ i = 4 \/ i = 5 \/ i = 6 \/ i = 7 := by omega
 have e : IntKind.u8.wrap (Int.fdiv (n : Int) (2 ^ min (56 - 8 * (i : Int)).toNat 64)) = (((Nm.oB (n / 2 ^ (56 - 8 * i))).toNat : Nat) : Int) := by
  rw [<- a5G, show min (56 - 8 * (i : Int)).toNat 64 = 56 - 8 * i by omega]
  congr 2
 rw [e]
 rcases this with rfl | rfl | rfl | rfl | rfl | rfl | rfl | rfl <;> simp [b8, Nm.be8, List.replicate]
theorem b5I {α : Type} (k : Nat) (f : α -> Value) : ∀ l : List α, C.bdL k (l.map fun x => .v (f x)) = true
 | [] => rfl
 | x :: l => by simp only [List.map_cons, C.bdL, C.bd, Bool.true_and]; exact b5I k f l
theorem b3a (n : Nat) : V7 (List.map b0u (List.take 8 (b8 n 8))) = some (Nm.be8 n) := by
 have : List.map b0u (List.take 8 (b8 n 8)) = (Nm.be8 n).map H7 := by simp [b8, Nm.be8, b0u, H7]
 rw [this, U1]
theorem Z7 (n : Nat) (hn : n < 18446744073709551616) : r9 Tryz.prog 185 [.v (.int .u64 (n : Int))] (sb (Nm.enc n)) := by
 refine r9.of a8G a8p (by exact Nat.le_of_ble_eq_true rfl) fun w O => ?_
 simp only [a3x, l5, TT, II, OA, OB, OC, MM, LL, VV, FF, MG, LG, VG, FG, sb]
 (repeat first | refine uA ?_ | (apply S.exit; exact rfl) | (refine uK ?_ ?_; focus first | omega | trivial | exact id | (intro h; rw [h]; rfl) | (intro h h2; rw [h, h2]; rfl) | (intro h; (try simp at h); omega) | (intros; simp_all <;> omega)) | simp only [go_sem, Nat.reduceBEq, Nat.reduceAdd, Nat.reduceLeDiff, Int.reduceToNat, Int.reducePow] | simp (disch := omega) only [ww])
 refine S.loop (X := Nat) (fun i => ⟨[(0, .v (.int .u64 (n : Int))), (3, .bp 0 0), (5, ints i)], [.box 273 (b8 n i)]⟩) (fun i => i <= 8) (fun i => 8 - i) 0 (Nat.zero_le _) (by rw [c1u]; exact (by (repeat first | refine uA ?_ | (refine ⟨?_, ?_⟩; focus first | rfl | trivial | (simp [slot]; done)) | rfl | trivial | simp))) ?_
 intro i hi
 simp only [ints]
 (repeat first | refine uA ?_ | (apply S.exit; exact rfl) | (refine uK ?_ ?_; focus first | omega | trivial | exact id | (intro h; rw [h]; rfl) | (intro h h2; rw [h, h2]; rfl) | (intro h; (try simp at h); omega) | (intros; simp_all <;> omega)) | simp only [go_sem, Nat.reduceBEq, Nat.reduceAdd, Nat.reduceLeDiff, Int.reduceToNat, Int.reducePow] | simp (disch := omega) only [ww])
 (refine uJ rfl (fun hc => ?_) fun hc => ?_)
 ·have hlen := b8C n i (by omega)
  (repeat first | refine uA ?_ | (apply S.exit; exact rfl) | (refine uK ?_ ?_; focus first | omega | trivial | exact id | (intro h; rw [h]; rfl) | (intro h h2; rw [h, h2]; rfl) | (intro h; (try simp at h); omega) | (intros; simp_all <;> omega)) | simp only [go_sem, Nat.reduceBEq, Nat.reduceAdd, Nat.reduceLeDiff, Int.reduceToNat, Int.reducePow, Nat.zero_add, Nat.mul_one] | simp (disch := omega) only [ww, Nat.zero_add, Nat.mul_one])
  refine S.next (i + 1) (by omega) (by omega) (by rw [c1G n i (by omega)]; exact Ent.mk _ _ (by (repeat first | refine uA ?_ | (refine ⟨?_, ?_⟩; focus first | rfl | trivial | (simp [slot]; done)) | rfl | trivial | simp)) (P5.cons (RI.box _ _ _ (l6.refl (b5I _ _ _))) P5.nil) (Nat.zero_le _))
 ·have hi8 : i = 8 := by omega
  subst hi8
  have hlen := b8C n 8 (by omega)
  (repeat first | refine uA ?_ | (apply S.exit; exact rfl) | (refine uK ?_ ?_; focus first | omega | trivial | exact id | (intro h; rw [h]; rfl) | (intro h h2; rw [h, h2]; rfl) | (intro h; (try simp at h); omega) | (intros; simp_all <;> omega)) | simp only [go_sem, Nat.reduceBEq, Nat.reduceAdd, Nat.reduceLeDiff, Int.reduceToNat, Int.reducePow, b3a, a3Z, Nm.b3x hn] | simp (disch := omega) only [ww, b3a, a3Z, Nm.b3x hn] | (refine uB (a0f (Nm.be8 n) (Nat.le_of_ble_eq_true rfl)) ?_ ?_; exact rfl))
  exact S.done (d9.out rfl (Imp.refl rfl) rfl)
theorem b6T (n : Int) (hn : n <= 9223372036854775807) : r9 Tryz.prog 178 [ints n] (sb (Nm.enc n.toNat)) := by
 refine r9.of b7N b8D (by exact Nat.le_of_ble_eq_true rfl) fun w O => ?_
 simp only [b1d, l5, TT, II, OA, OB, OC, MM, LL, VV, FF, MG, LG, VG, FG, sb, ints]
 (repeat first | refine uA ?_ | (apply S.exit; exact rfl) | (refine uK ?_ ?_; focus first | omega | trivial | exact id | (intro h; rw [h]; rfl) | (intro h h2; rw [h, h2]; rfl) | (intro h; (try simp at h); omega) | (intros; simp_all <;> omega)) | simp only [go_sem, Nat.reduceBEq, Nat.reduceAdd, Nat.reduceLeDiff, Int.reduceToNat, Int.reducePow] | simp (disch := omega) only [ww])
 (refine uJ rfl (fun hc => ?_) fun hc => ?_)
 ·have h0 : n.toNat = 0 := by omega
  rw [h0, Nm.a2g]
  (repeat first | refine uA ?_ | (apply S.exit; exact rfl) | (refine uK ?_ ?_; focus first | omega | trivial | exact id | (intro h; rw [h]; rfl) | (intro h h2; rw [h, h2]; rfl) | (intro h; (try simp at h); omega) | (intros; simp_all <;> omega)) | simp only [go_sem, Nat.reduceBEq, Nat.reduceAdd, Nat.reduceLeDiff, Int.reduceToNat, Int.reducePow] | simp (disch := omega) only [ww])
  exact S.done (d9.out rfl (Imp.refl rfl) rfl)
 ·obtain ⟨m, rfl⟩ := Int.eq_ofNat_of_zero_le (show 0 <= n by omega)
  (repeat first | refine uA ?_ | (apply S.exit; exact rfl) | (refine uK ?_ ?_; focus first | omega | trivial | exact id | (intro h; rw [h]; rfl) | (intro h h2; rw [h, h2]; rfl) | (intro h; (try simp at h); omega) | (intros; simp_all <;> omega)) | simp only [go_sem, Nat.reduceBEq, Nat.reduceAdd, Nat.reduceLeDiff, Int.reduceToNat, Int.reducePow] | simp (disch := omega) only [ww] | (refine uB (Z7 m (by omega)) ?_ ?_; exact rfl))
  exact S.done (d9.out rfl (Imp.refl rfl) rfl)
end Go.Proofs.YtogfpjohjphngaaGreatDoor
namespace Go.Proofs.YtogfpjohjphngaaGreatDoor.Eng
open Go Go.RowKit
def c1M (E : Ctx) (e sz : Nat) (es : List (List C)) (y : Value) (w' : World) : Prop :=
 Below E.w0.heap.size E.w0 w' /\ (∀ b, A8 y = some b -> E.w0.heap.size <= b /\ b < w'.heap.size) /\ K7 [] w' (fun b => E.av b \/ A8 y = some b) y (.row e sz es)
def FNew (P : Program) (f : Nat) (args : List C) (e sz : Nat) (es : List (List C)) : Prop := ∀ (O : Nat -> Prop) (w : World) (vs : List Value), (∀ b, O b -> b < w.heap.size) -> FzL w O args vs ->
 Calls P f vs.toArray w fun ee w' => ∃ y, ee = .returned y /\ Below w.heap.size w w' /\ (∀ b, A8 y = some b -> w.heap.size <= b /\ b < w'.heap.size) /\ K7 [] w' (fun b => O b \/ A8 y = some b) y (.row e sz es)
theorem a4L {w : World} {O O' : Nat -> Prop} {ν ν' : List Value} {x : Value} {e sz : Nat} {es : List (List C)} (h : ∀ b, O' b -> O b) (hr : K7 ν w O x (.row e sz es)) : K7 ν' w O' x (.row e sz es) := by
 obtain ⟨h0, vs, h1, h2, h3⟩ := hr
 exact ⟨h0, vs, FzL.keep (Keeps.sub h) h1, h2, h3⟩
theorem d9.new {E : Ctx} (hown : E.own0 = fun _ => False) {rs : List Res} {cs : List C} {k e sz : Nat} {es : List (List C)} (h : b0b cs = .rv k) (hk : rs[k]? = some (.row e sz es)) : d9 E rs (c1M E e sz es) cs := by
 intro wf ν w y hR hF hN hd
 rw [h] at hd
 simp only [Den] at hd
 have hok := hR.get hk hd.1
 have hown' : ∀ b, A8 y = some b -> owned rs ν b := fun b hb => ⟨k, _, y, hk, hd.1, hb⟩
 refine ⟨⟨hF.os, hF.tape, hF.output, hF.size, fun b hb => hF.block b hb (by rw [hown]; exact fun h => h)⟩, fun b hb => ?_, a4L (fun b hb => ?_) hok⟩
 ·obtain ⟨h1, h2, h3⟩ := hR.low b (hown' b hb)
  rw [hown] at h3
  rcases h3 with h3 | h3
  ·exact h3.elim
  ·exact ⟨h3, h1⟩
 ·rcases hb with hb | hb
  ·exact .inl hb
  ·exact .inr (hown' b hb)
theorem FNew.of {eff : Nat -> Bool} {P : Program} {f : Nat} {fn : Func} {ir : l9} (hf : P.funcs[f]? = some fn) (hc : j6 eff P fn = some ir) {args : List C} {e sz : Nat} {es : List (List C)} (hn : args.length <= ir.ntmps)
  (h : ∀ w O, S ⟨P, eff, ir.ntmps, w, fun _ => False, O, [], []⟩ (Fin P ir.results (c1M ⟨P, eff, ir.ntmps, w, fun _ => False, O, [], []⟩ e sz es)) ⟨l5 0 args, []⟩ [.code ir.body]) : FNew P f args e sz es := by
 intro O w vs hO hargs
 exact enter hf hc O hO args hargs hn (h w O)
theorem FNew.spec {P : Program} {f : Nat} {args : List C} {e sz : Nat} {es : List (List C)} (h : FNew P f args e sz es) : r9 P f args (.sl sz es) := by
 intro O w vs hO hA
 refine (h O w vs hO hA).mono ?_
 rintro ee w' ⟨y, rfl, h1, h2, h0, us, h3, h4, h5⟩
 refine ⟨y, rfl, h1, b7z h5 rfl h0 (FzL.keep (Keeps.sub fun b hb => .inl hb) h3) h4 fun b hb => ?_⟩
 obtain ⟨h6, h7⟩ := h2 b hb
 exact ⟨h7, fun hb' => by have := hO b hb'; omega⟩
theorem FNew.t {E : Ctx} {rs : List Res} {f : Nat} {args : List C} {e sz : Nat} {es : List (List C)} (h : FNew E.P f args e sz es) (hb : (C.bdL rs.length args && C.clL args) = true) : p8 E rs f args (.rv rs.length) (rs ++ [.row e sz es]) [] := by
 rw [Bool.and_eq_true] at hb
 intro av ν w vs hR hav hF hD
 have hlt : ∀ b, OO av rs ν b -> b < w.heap.size := fun b hb => by
  rcases hb with hb | hb
  ·exact hR.av b hb
  ·exact (hR.low b hb).1
 refine (h (OO av rs ν) w vs hlt (hD.fz hb.2)).mono ?_
 rintro ee w' ⟨y, rfl, h1, h2, h3⟩
 have hadd := hR.add (x := y) (r := .row e sz es) h1 h2 (fun _ _ => a4L (fun b hb => by
  rcases hb with hb | ⟨k, q, z, hk, hz, hf⟩
  ·exact .inl (.inl hb)
  ·rcases Nat.lt_or_ge k rs.length with hlt | hge
   ·rw [List.getElem?_append_left hlt] at hk
    rw [List.getElem?_append_left (by rw [hR.len]; exact hlt)] at hz
    exact .inl (.inr ⟨k, q, z, hk, hz, hf⟩)
   ·rw [List.getElem?_append_right hge] at hk
    rw [List.getElem?_append_right (by rw [hR.len]; exact hge), hR.len] at hz
    cases hi : k - rs.length with
    | zero =>
     rw [hi] at hk hz
     simp at hk hz
     subst hk hz
     exact .inr hf
    | succ n => rw [hi] at hk; simp at hk) h3)
 refine ⟨y, ν ++ [y], rfl, hadd.1, hadd.2, ?_⟩
 simp only [Den]
 obtain ⟨_, us, _, _, h5⟩ := h3
 exact ⟨by rw [<- hR.len]; simp, h5.slice.elim fun A h => h.elim fun c h => ⟨A, _, c, h⟩⟩
theorem q9.vw {E : Ctx} {rs : List Res} {f : Nat} {args args' : List C} {K : C -> List Res -> List Nat -> Prop} {r : C} (hs : r9 E.P f args' r) (hi : l6 rs [] args args') (hcl : C.clL args' = true) (hr : r.flat = true) (hk : K r rs []) : q9 E rs f args K :=
 q9.quiet (N7.view (fun _ => hs) (fun _ => hi) (fun _ => hcl) hr) hk
theorem a0m.vw {E : Ctx} {rs : List Res} {p : Bool} {f : Nat} {args args' : List C} {K : C -> Prop} {r : C} (hs : r9 E.P f args' r) (hi : l6 rs [] args args') (hcl : C.clL args' = true) (hr : r.flat = true) (hk : K r) : a0m E rs p f args K :=
 a0m.mk (N7.view (fun _ => hs) (fun _ => hi) (fun _ => hcl) hr) hk
end Go.Proofs.YtogfpjohjphngaaGreatDoor.Eng
namespace Go.Proofs.YtogfpjohjphngaaGreatDoor
open Go Go.RowKit Eng
set_option maxRecDepth 10000
set_option maxHeartbeats 1000000
def ws (l : List Nat) : List (List C) := l.map wd
theorem o9 (l : List Nat) : (ws l).length = l.length := by simp [ws]
theorem y9 (l : List Nat) (i : Nat) : (ws l)[i]? = (l[i]?).map wd := by simp [ws]
theorem F8 (l : List Nat) (i v : Nat) : (ws l).set i [.v (.int .u32 (v : Int))] = ws (l.set i v) := by
 simp [ws, wd, List.map_set]
theorem a2m (n : Nat) : List.replicate n [C.v (.int .u32 0)] = ws (List.replicate n 0) := by simp [ws, wd]
theorem c1V (n : Nat) (h : n <= 1099511627776) : IntKind.i64.wrap (((n : Int) + 3).tdiv 4) = (((n + 3) / 4 : Nat) : Int) := by
 have : ((n : Int) + 3).tdiv 4 = (((n + 3) / 4 : Nat) : Int) := rfl
 rw [this, Eng.wrap_i64 (by omega)]
theorem c2o (i : Nat) (h : i <= 1099511627776) : IntKind.i64.wrap ((i : Int).tdiv 4) = ((i / 4 : Nat) : Int) := by
 have : (i : Int).tdiv 4 = ((i / 4 : Nat) : Int) := rfl
 rw [this, Eng.wrap_i64 (by omega)]
theorem c0u (i : Nat) : (i : Int).tmod 4 = ((i % 4 : Nat) : Int) := rfl
theorem b0K (o : Nat) (b : UInt8) (i : Nat) (ho : o < 4294967296) (hb : b.toNat * 2 ^ (8 * (i % 4)) < 4294967296) :
  bits .or .u32 (o : Int) (IntKind.u32.wrap (IntKind.u32.wrap ((b.toNat : Nat) : Int) * 2 ^ min (((i % 4 : Nat) : Int) * 8).toNat 32)) = ((o ||| b.toNat * 2 ^ (8 * (i % 4)) : Nat) : Int) := by
 have h0 := b.toNat_lt
 rw [Eng.wrap_u32 (n := ((b.toNat : Nat) : Int)) (by omega), show min (((i % 4 : Nat) : Int) * 8).toNat 32 = 8 * (i % 4) by omega]
 have e : ((b.toNat : Nat) : Int) * 2 ^ (8 * (i % 4)) = ((b.toNat * 2 ^ (8 * (i % 4)) : Nat) : Int) := by rw [Int.natCast_mul, Int.natCast_pow]; rfl
 rw [e, Eng.wrap_u32 (by omega), b8V _ _ ho hb]
theorem a1C (l : List UInt8) (hl : l.length <= 1099511627776) : FNew Tryz.prog 187 [sb l] 240 1 (ws (Nm.H6 l)) := by
 refine FNew.of b2Q b3e (by exact Nat.le_of_ble_eq_true rfl) fun w O => ?_
 simp only [a6J, l5, TT, II, OA, OB, OC, MM, LL, VV, FF, MG, LG, VG, FG, sb]
 have htl := Nm.S9 l
 have hend := fun out h => Nm.b3s (l := l) (out := out) h
 have ht := a0f l hl
 generalize Nm.trim l = m at *
 have hm : m.length <= 1099511627776 := by omega
 (repeat first | refine uA ?_ | (apply S.exit; exact rfl) | (refine uK ?_ ?_; focus first | omega | trivial | exact id | (intro h; rw [h]; rfl) | (intro h h2; rw [h, h2]; rfl) | (intro h; (try simp at h); omega) | (intros; simp_all <;> omega)) | simp only [go_sem, Nat.reduceBEq, Nat.reduceAdd, Nat.reduceLeDiff, Int.reduceToNat, Int.reducePow, y8, c1V m.length hm] | simp (disch := omega) only [ww, y8, c1V m.length hm] | (refine uB ht ?_ ?_; exact rfl))
 refine S.loop (X := Nat × List Nat) (fun x => ⟨[(0, sb m), (3, .rv 0), (14, ints m.length), (15, ints x.1)], [.row 240 1 (ws x.2)]⟩) (fun x => x.1 <= m.length /\ Nm.a3K m x.1 x.2) (fun x => m.length - x.1) (0, List.replicate ((m.length + 3) / 4) 0) ⟨Nat.zero_le _, Nm.b1P m⟩ (by simp only [<- a2m]; exact (by (repeat first | refine uA ?_ | (refine ⟨?_, ?_⟩; focus first | rfl | trivial | (simp [slot]; done)) | rfl | trivial | simp))) ?_
 rintro ⟨i, out⟩ ⟨hi, hinv⟩
 simp only [sb, ints] at hi hinv ⊢
 (repeat first | refine uA ?_ | (apply S.exit; exact rfl) | (refine uK ?_ ?_; focus first | omega | trivial | exact id | (intro h; rw [h]; rfl) | (intro h h2; rw [h, h2]; rfl) | (intro h; (try simp at h); omega) | (intros; simp_all <;> omega)) | simp only [go_sem, Nat.reduceBEq, Nat.reduceAdd, Nat.reduceLeDiff, Int.reduceToNat, Int.reducePow] | simp (disch := omega) only [ww])
 (refine uJ rfl (fun hc => ?_) fun hc => ?_)
 ·have hi' : i < m.length := by omega
  have hol := hinv.1
  have hj : i / 4 < out.length := by omega
  obtain ⟨hst, hlt, hbl⟩ := Nm.b1p hinv hi' hj
  have hgo : out[i / 4]? = some out[i / 4] := List.getElem?_eq_getElem hj
  have ho32 := hinv.2.1 _ (List.getElem_mem hj)
  have hgm : m.getD ((m.length : Int) - 1 - (i : Int)).toNat 0 = m[m.length - 1 - i] := by
   rw [show ((m.length : Int) - 1 - (i : Int)).toNat = m.length - 1 - i by omega, List.getD_eq_getElem?_getD, List.getElem?_eq_getElem (by omega)]
   rfl
  (repeat first | refine uA ?_ | (apply S.exit; exact rfl) | (refine uK ?_ ?_; focus first | omega | trivial | exact id | (intro h; rw [h]; rfl) | (intro h h2; rw [h, h2]; rfl) | (intro h; (try simp at h); omega) | (intros; simp_all <;> omega)) | simp only [go_sem, Nat.reduceBEq, Nat.reduceAdd, Nat.reduceLeDiff, Int.reduceToNat, Int.reducePow, y8, M5, o9, y9, hgo, Option.map_some, hgm, c2o i (by omega), c0u, wd, b0K _ _ _ ho32 hbl, F8] | simp (disch := omega) only [ww, y8, M5, o9, y9, hgo, Option.map_some, hgm, c2o i (by omega), c0u, wd, b0K _ _ _ ho32 hbl, F8])
  refine S.next (x := (i, out)) (i + 1, _) ⟨hi', hst⟩ (by simp only; omega) (by (repeat first | refine uA ?_ | (refine ⟨?_, ?_⟩; focus first | rfl | trivial | (simp [slot]; done)) | rfl | trivial | simp))
 ·have hi' : i = m.length := by omega
  subst hi'
  (repeat first | refine uA ?_ | (apply S.exit; exact rfl) | (refine uK ?_ ?_; focus first | omega | trivial | exact id | (intro h; rw [h]; rfl) | (intro h h2; rw [h, h2]; rfl) | (intro h; (try simp at h); omega) | (intros; simp_all <;> omega)) | simp only [go_sem, Nat.reduceBEq, Nat.reduceAdd, Nat.reduceLeDiff, Int.reduceToNat, Int.reducePow] | simp (disch := omega) only [ww])
  rw [<- hend _ hinv]
  exact S.done (d9.new rfl rfl rfl)
theorem b2F (n k : Nat) : IntKind.u8.wrap (Int.fdiv (n : Int) (k : Int)) = (((Nm.oB (n / k)).toNat : Nat) : Int) := a5G n k
theorem a4S (l : List UInt8) (i : Nat) (v : UInt8) : (l.map H7).set i [.v (.int .u8 ((v.toNat : Nat) : Int))] = (l.set i v).map H7 := by
 simp [H7, List.map_set]
theorem a2i (n : Nat) : List.replicate n [C.v (.int .u8 0)] = (List.replicate n (0 : UInt8)).map H7 := by simp [H7]
theorem a3A (l : List Nat) (hl : l.length <= 274877906944) (hw : Nm.D9 l) : r9 Tryz.prog 188 [.sl 1 (ws l)] (sb (Nm.enc (Nm.wv 4294967296 l))) := by
 refine r9.of b4N b3W (by exact Nat.le_of_ble_eq_true rfl) fun w O => ?_
 simp only [a7L, l5, TT, II, OA, OB, OC, MM, LL, VV, FF, MG, LG, VG, FG, sb]
 (repeat first | refine uA ?_ | (apply S.exit; exact rfl) | (refine uK ?_ ?_; focus first | omega | trivial | exact id | (intro h; rw [h]; rfl) | (intro h h2; rw [h, h2]; rfl) | (intro h; (try simp at h); omega) | (intros; simp_all <;> omega)) | simp only [go_sem, Nat.reduceBEq, Nat.reduceAdd, Nat.reduceLeDiff, Int.reduceToNat, Int.reducePow, o9] | simp (disch := omega) only [ww, o9])
 refine S.loop (X := Nat × List UInt8) (fun x => ⟨[(0, .sl 1 (ws l)), (3, .rv 0), (11, .sl 1 (ws l)), (12, ints l.length), (13, ints x.1)], [.row 5 1 (x.2.map H7)]⟩) (fun x => x.1 <= l.length /\ Nm.a5f l x.1 x.2) (fun x => l.length - x.1) (0, List.replicate (4 * l.length) 0) ⟨Nat.zero_le _, Nm.b3c l⟩ (by simp only [<- a2i, o9]; exact (by (repeat first | refine uA ?_ | (refine ⟨?_, ?_⟩; focus first | rfl | trivial | (simp [slot]; done)) | rfl | trivial | simp))) ?_
 rintro ⟨i, b⟩ ⟨hi, hinv⟩
 simp only [ints] at hi hinv ⊢
 have hbl := hinv.1
 (repeat first | refine uA ?_ | (apply S.exit; exact rfl) | (refine uK ?_ ?_; focus first | omega | trivial | exact id | (intro h; rw [h]; rfl) | (intro h h2; rw [h, h2]; rfl) | (intro h; (try simp at h); omega) | (intros; simp_all <;> omega)) | simp only [go_sem, Nat.reduceBEq, Nat.reduceAdd, Nat.reduceLeDiff, Int.reduceToNat, Int.reducePow] | simp (disch := omega) only [ww])
 (refine uJ rfl (fun hc => ?_) fun hc => ?_)
 ·have hi' : i < l.length := by omega
  have hgl : l[i]? = some l[i] := List.getElem?_eq_getElem hi'
  have hw32 := hw _ (List.getElem_mem hi')
  have hk : (l.length : Int) - 1 - (i : Int) = ((l.length - 1 - i : Nat) : Int) := by omega
  have hst := Nm.b3L hinv hi' hw32 (Nm.a1h (l[i] / 16777216)) (Nm.a1h (l[i] / 65536)) (Nm.a1h (l[i] / 256)) (Nm.a1h l[i])
  have w1 : IntKind.u8.wrap ((l[i] : Int).fdiv 16777216) = (((Nm.oB (l[i] / 16777216)).toNat : Nat) : Int) := b2F l[i] 16777216
  have w2 : IntKind.u8.wrap ((l[i] : Int).fdiv 65536) = (((Nm.oB (l[i] / 65536)).toNat : Nat) : Int) := b2F l[i] 65536
  have w3 : IntKind.u8.wrap ((l[i] : Int).fdiv 256) = (((Nm.oB (l[i] / 256)).toNat : Nat) : Int) := b2F l[i] 256
  have w4 : IntKind.u8.wrap (l[i] : Int) = (((Nm.oB l[i]).toNat : Nat) : Int) := by rw [a2v, Nm.a1h]
  generalize Nm.oB (l[i] / 16777216) = x0 at *
  generalize Nm.oB (l[i] / 65536) = x1 at *
  generalize Nm.oB (l[i] / 256) = x2 at *
  generalize Nm.oB l[i] = x3 at *
  generalize hkk : l.length - 1 - i = k at *
  have n0 : (4 * (k : Int)).toNat = 4 * k := by omega
  have n1 : (4 * (k : Int) + 1).toNat = 4 * k + 1 := by omega
  have n2 : (4 * (k : Int) + 2).toNat = 4 * k + 2 := by omega
  have n3 : (4 * (k : Int) + 3).toNat = 4 * k + 3 := by omega
  have g0 : b[4 * k]? = some b[4 * k] := List.getElem?_eq_getElem (by omega)
  have g1 : (b.set (4 * k) x0)[4 * k + 1]? = some _ := List.getElem?_eq_getElem (by simp; omega)
  have g2 : ((b.set (4 * k) x0).set (4 * k + 1) x1)[4 * k + 2]? = some _ := List.getElem?_eq_getElem (by simp; omega)
  have g3 : (((b.set (4 * k) x0).set (4 * k + 1) x1).set (4 * k + 2) x2)[4 * k + 3]? = some _ := List.getElem?_eq_getElem (by simp; omega)
  (repeat first | refine uA ?_ | (apply S.exit; exact rfl) | (refine uK ?_ ?_; focus first | omega | trivial | exact id | (intro h; rw [h]; rfl) | (intro h h2; rw [h, h2]; rfl) | (intro h; (try simp at h); omega) | (intros; simp_all <;> omega)) | simp only [go_sem, Nat.reduceBEq, Nat.reduceAdd, Nat.reduceLeDiff, Int.reduceToNat, Int.reducePow, o9, y9, hgl, Option.map_some, wd, hk, w1, w2, w3, w4, n0, n1, n2, n3, g0, g1, g2, g3, a4S, H7, List.length_set, List.getElem?_map] | simp (disch := omega) only [ww, o9, y9, hgl, Option.map_some, wd, hk, w1, w2, w3, w4, n0, n1, n2, n3, g0, g1, g2, g3, a4S, H7, List.length_set, List.getElem?_map])
  refine S.next (x := (i, b)) (i + 1, _) ⟨hi', hst⟩ (by simp only; omega) (by (repeat first | refine uA ?_ | (refine ⟨?_, ?_⟩; focus first | rfl | trivial | (simp [slot]; done)) | rfl | trivial | simp))
 ·have hi' : i = l.length := by omega
  subst hi'
  have hend := Nm.b4D hinv
  (repeat first | refine uA ?_ | (apply S.exit; exact rfl) | (refine uK ?_ ?_; focus first | omega | trivial | exact id | (intro h; rw [h]; rfl) | (intro h h2; rw [h, h2]; rfl) | (intro h; (try simp at h); omega) | (intros; simp_all <;> omega)) | simp only [go_sem, Nat.reduceBEq, Nat.reduceAdd, Nat.reduceLeDiff, Int.reduceToNat, Int.reducePow, U1, a3Z, hend] | simp (disch := omega) only [ww, U1, a3Z, hend] | (refine uB (a0f b (by omega)) ?_ ?_; exact rfl))
  exact S.done (d9.out rfl (Imp.refl rfl) rfl)
theorem a0S (n : Nat) : IntKind.u32.wrap (n : Int) = ((n % 4294967296 : Nat) : Int) := b3T n
theorem Y1 (n : Nat) : Int.fdiv (n : Int) 4294967296 = ((n / 4294967296 : Nat) : Int) := a1r n 4294967296
theorem f_add (a b : List UInt8) (ha : a.length <= 549755813888) (hb : b.length <= 549755813888) : r9 Tryz.prog 179 [sb a, sb b] (sb (Nm.enc (Nm.val a + Nm.val b))) := by
 refine r9.of b6e b6x (by exact Nat.le_of_ble_eq_true rfl) fun w O => ?_
 simp only [a8J, l5, TT, II, OA, OB, OC, MM, LL, VV, FF, MG, LG, VG, FG, sb]
 have hta := Nm.S9 a
 have htb := Nm.S9 b
 have hva := Nm.L9 a
 have hvb := Nm.L9 b
 have hla := Nm.Q0 (Nm.trim a)
 have hlb := Nm.Q0 (Nm.trim b)
 have hwa := Nm.Y7 (Nm.trim a)
 have hwb := Nm.Y7 (Nm.trim b)
 have h3a := Nm.Y5 (Nm.trim a)
 have h3b := Nm.Y5 (Nm.trim b)
 have fta := a0f a (by omega)
 have ftb := a0f b (by omega)
 rw [Nm.a6j] at hla hlb
 generalize Nm.trim a = x at *
 generalize Nm.trim b = y at *
 (repeat first | refine uA ?_ | (apply S.exit; exact rfl) | (refine uK ?_ ?_; focus first | omega | trivial | exact id | (intros; simp_all <;> omega)) | simp (disch := omega) only [go_sem, Nat.reduceBEq, Nat.reduceAdd, Nat.reduceLeDiff, Int.reduceToNat, Int.reducePow, ww, y8] | (refine uB fta ?_ ?_; exact rfl) | (refine uB ftb ?_ ?_; exact rfl))
 (refine uJ rfl (fun hc => ?_) fun hc => ?_)
 ·obtain ⟨h1, h2⟩ := hc
  have hx := Nm.Y0 (l := x) (k := 7) (by omega)
  have hy := Nm.Y0 (l := y) (k := 7) (by omega)
  have e1 : Nm.val x % 18446744073709551616 = Nm.val x := Nat.mod_eq_of_lt (by omega)
  have e2 : Nm.val y % 18446744073709551616 = Nm.val y := Nat.mod_eq_of_lt (by omega)
  have fx := a1z x (by omega)
  have fy := a1z y (by omega)
  rw [e1] at fx
  rw [e2] at fy
  have hf := Z7 (Nm.val x + Nm.val y) (by omega)
  rw [<- hva, <- hvb]
  (repeat first | refine uA ?_ | (apply S.exit; exact rfl) | (refine uK ?_ ?_; focus first | omega | trivial | exact id | (intros; simp_all <;> omega)) | simp (disch := omega) only [go_sem, Nat.reduceBEq, Nat.reduceAdd, Nat.reduceLeDiff, Int.reduceToNat, Int.reducePow, ww] | (refine uB fx ?_ ?_; exact rfl) | (refine uB fy ?_ ?_; exact rfl) | (refine uB hf ?_ ?_; exact rfl))
  exact S.done (d9.out rfl (Imp.refl rfl) rfl)
 ·have hwx := (a1C x (by omega)).spec
  have hwy := (a1C y (by omega)).spec
  rw [<- hva, <- hvb, <- hwa, <- hwb]
  generalize Nm.H6 x = p at *
  generalize Nm.H6 y = q at *
  (repeat first | refine uA ?_ | (apply S.exit; exact rfl) | (refine uK ?_ ?_; focus first | omega | trivial | exact id | (intros; simp_all <;> omega)) | simp (disch := omega) only [go_sem, Nat.reduceBEq, Nat.reduceAdd, Nat.reduceLeDiff, Int.reduceToNat, Int.reducePow, ww, o9] | (refine uB hwx ?_ ?_; exact rfl) | (refine uB hwy ?_ ?_; exact rfl))
  have hpl : p.length <= 137438953472 := by omega
  have hql : q.length <= 137438953472 := by omega
  have key : ∀ (x y out : List Nat) (i c : Nat), Nm.a2F x y i out c -> i < x.length -> (∀ w ∈ x, w < 4294967296) -> (∀ w ∈ y, w < 4294967296) -> ∀ s, s = c + x.getD i 0 + y.getD i 0 -> Nm.a2F x y (i + 1) (out.set i (s % 4294967296)) (s / 4294967296) := fun x y out i c h hi hx hy s hs => by
   rw [Nm.getD_lt hi] at hs
   refine Nm.b3Y h hi (hx _ (List.getElem_mem hi)) ?_ hs
   rcases Nat.lt_or_ge i y.length with h1 | h1
   ·rw [Nm.getD_lt h1]; exact hy _ (List.getElem_mem h1)
   ·rw [List.getD_eq_getElem?_getD, List.getElem?_eq_none h1]; decide
  refine S.cond rfl (fun hc => ?_) (fun hc => ?_)
  all_goals simp only [decide_eq_true_eq, decide_eq_false_iff_not] at hc
  all_goals clear hwx hwy fta ftb
  ·rw [Nat.add_comm]
   generalize hP : q = P at *
   generalize hQ : p = Q at *
   have hle : Q.length <= P.length := by omega
   have hPl : P.length <= 137438953472 := by omega
   have hP3 : ∀ w ∈ P, w < 4294967296 := h3b
   have hQ3 : ∀ w ∈ Q, w < 4294967296 := h3a
   clear hP hQ hwa hwb hc
   (repeat first | refine uA ?_ | (apply S.exit; exact rfl) | (refine uK ?_ ?_; focus first | omega | trivial | exact id | (intros; simp_all <;> omega)) | simp (disch := omega) only [go_sem, Nat.reduceBEq, Nat.reduceAdd, Nat.reduceLeDiff, Int.reduceToNat, Int.reducePow, ww, o9])
   have hn1 : ((P.length : Int) + 1).toNat = P.length + 1 := by omega
   refine S.loop (X := Nat × List Nat × Nat) (fun x => ⟨[(5, .sl 1 (ws P)), (6, .sl 1 (ws Q)), (7, .rv 0), (8, .v (.int .u64 (x.2.2 : Int))), (44, .sl 1 (ws P)), (45, ints P.length), (46, ints x.1)], [.row 240 1 (ws x.2.1)]⟩) (fun x => x.1 <= P.length /\ Nm.a2F P Q x.1 x.2.1 x.2.2) (fun x => P.length - x.1) (0, List.replicate (P.length + 1) 0, 0) ⟨Nat.zero_le _, Nm.a7X P Q⟩ (by simp only [<- a2m]; rw [hn1]; exact (by (repeat first | refine uA ?_ | (refine ⟨?_, ?_⟩; focus first | rfl | trivial | (simp [slot]; done)) | rfl | trivial | simp))) ?_
   rintro ⟨i, out, c⟩ ⟨hi, hinv⟩
   simp only [ints] at hi hinv ⊢
   have hol := hinv.1
   have hc1 := hinv.2.2.1
   (repeat first | refine uA ?_ | (apply S.exit; exact rfl) | (refine uK ?_ ?_; focus first | omega | trivial | exact id | (intros; simp_all <;> omega)) | simp (disch := omega) only [go_sem, Nat.reduceBEq, Nat.reduceAdd, Nat.reduceLeDiff, Int.reduceToNat, Int.reducePow, ww])
   (refine uJ rfl (fun hc => ?_) fun hc => ?_)
   ·have hi' : i < P.length := by omega
    have hgp : P[i]? = some P[i] := List.getElem?_eq_getElem hi'
    have hp32 := hP3 _ (List.getElem_mem hi')
    have hk := key P Q out i c hinv hi' hP3 hQ3
    rw [Nm.getD_lt hi'] at hk
    have hgo : out[i]? = some out[i] := List.getElem?_eq_getElem (by omega)
    generalize P[i] = pi at *
    (repeat first | refine uA ?_ | (apply S.exit; exact rfl) | (refine uK ?_ ?_; focus first | omega | trivial | exact id | (intros; simp_all <;> omega)) | simp (disch := omega) only [go_sem, Nat.reduceBEq, Nat.reduceAdd, Nat.reduceLeDiff, Int.reduceToNat, Int.reducePow, ww, o9, y9, hgp, Option.map_some, wd])
    (refine uJ rfl (fun hc => ?_) fun hc => ?_)
    ·have hi2 : i < Q.length := by omega
     have hgq : Q[i]? = some Q[i] := List.getElem?_eq_getElem hi2
     have hq32 := hQ3 _ (List.getElem_mem hi2)
     rw [Nm.getD_lt hi2] at hk
     generalize Q[i] = qi at *
     obtain ⟨s, hs⟩ : ∃ s : Nat, s = c + pi + qi := ⟨_, rfl⟩
     have hs' : (c : Int) + (pi : Int) + (qi : Int) = (s : Int) := by omega
     have hk := hk s hs
     (repeat first | refine uA ?_ | (apply S.exit; exact rfl) | (refine uK ?_ ?_; focus first | omega | trivial | exact id | (intros; simp_all <;> omega)) | simp (disch := omega) only [go_sem, Nat.reduceBEq, Nat.reduceAdd, Nat.reduceLeDiff, Int.reduceToNat, Int.reducePow, ww, o9, y9, hgq, hgo, Option.map_some, wd, hs', a0S, Y1, F8])
     refine S.next (x := (i, out, c)) (i + 1, _, _) ⟨hi', hk⟩ (by simp only; omega) (by (repeat first | refine uA ?_ | (refine ⟨?_, ?_⟩; focus first | rfl | trivial | (simp [slot]; done)) | rfl | trivial | simp))
    ·have hq0 : Q.getD i 0 = 0 := by rw [List.getD_eq_getElem?_getD, List.getElem?_eq_none (by omega)]; rfl
     rw [hq0, Nat.add_zero] at hk
     obtain ⟨s, hs⟩ : ∃ s : Nat, s = c + pi := ⟨_, rfl⟩
     have hs' : (c : Int) + (pi : Int) = (s : Int) := by omega
     have hk := hk s hs
     (repeat first | refine uA ?_ | (apply S.exit; exact rfl) | (refine uK ?_ ?_; focus first | omega | trivial | exact id | (intros; simp_all <;> omega)) | simp (disch := omega) only [go_sem, Nat.reduceBEq, Nat.reduceAdd, Nat.reduceLeDiff, Int.reduceToNat, Int.reducePow, ww, o9, y9, hgo, Option.map_some, wd, hs', a0S, Y1, F8])
     refine S.next (x := (i, out, c)) (i + 1, _, _) ⟨hi', hk⟩ (by simp only; omega) (by (repeat first | refine uA ?_ | (refine ⟨?_, ?_⟩; focus first | rfl | trivial | (simp [slot]; done)) | rfl | trivial | simp))
   ·have hi' : i = P.length := by omega
    subst hi'
    obtain ⟨he, h32⟩ := Nm.a9F hinv hle
    have hgo : out[P.length]? = some out[P.length] := List.getElem?_eq_getElem (by omega)
    rw [<- he]
    have ht := a3A (out.set P.length c) (by rw [List.length_set]; omega) h32
    (repeat first | refine uA ?_ | (apply S.exit; exact rfl) | (refine uK ?_ ?_; focus first | omega | trivial | exact id | (intros; simp_all <;> omega)) | simp (disch := omega) only [go_sem, Nat.reduceBEq, Nat.reduceAdd, Nat.reduceLeDiff, Int.reduceToNat, Int.reducePow, ww, o9, y9, hgo, Option.map_some, wd, F8] | (refine uC ht ?_ ?_ ?_; exact rfl; focus (repeat' first | exact l6.nil | exact Imp.refl rfl | exact Imp.frz rfl rfl rfl | (refine Imp.I8 rfl rfl ?_ ?_; (focus ((try simp only [List.length_append, o9, y9, hgo, Option.map_some, wd, F8]); omega)); (focus first | rfl | assumption)) | refine l6.cons ?_ ?_); done))
    exact S.done (d9.out rfl (Imp.refl rfl) rfl)
  ·generalize hP : p = P at *
   generalize hQ : q = Q at *
   have hle : Q.length <= P.length := by omega
   have hPl : P.length <= 137438953472 := by omega
   have hP3 : ∀ w ∈ P, w < 4294967296 := h3a
   have hQ3 : ∀ w ∈ Q, w < 4294967296 := h3b
   clear hP hQ hwa hwb hc
   (repeat first | refine uA ?_ | (apply S.exit; exact rfl) | (refine uK ?_ ?_; focus first | omega | trivial | exact id | (intros; simp_all <;> omega)) | simp (disch := omega) only [go_sem, Nat.reduceBEq, Nat.reduceAdd, Nat.reduceLeDiff, Int.reduceToNat, Int.reducePow, ww, o9])
   have hn1 : ((P.length : Int) + 1).toNat = P.length + 1 := by omega
   refine S.loop (X := Nat × List Nat × Nat) (fun x => ⟨[(5, .sl 1 (ws P)), (6, .sl 1 (ws Q)), (7, .rv 0), (8, .v (.int .u64 (x.2.2 : Int))), (44, .sl 1 (ws P)), (45, ints P.length), (46, ints x.1)], [.row 240 1 (ws x.2.1)]⟩) (fun x => x.1 <= P.length /\ Nm.a2F P Q x.1 x.2.1 x.2.2) (fun x => P.length - x.1) (0, List.replicate (P.length + 1) 0, 0) ⟨Nat.zero_le _, Nm.a7X P Q⟩ (by simp only [<- a2m]; rw [hn1]; exact (by (repeat first | refine uA ?_ | (refine ⟨?_, ?_⟩; focus first | rfl | trivial | (simp [slot]; done)) | rfl | trivial | simp))) ?_
   rintro ⟨i, out, c⟩ ⟨hi, hinv⟩
   simp only [ints] at hi hinv ⊢
   have hol := hinv.1
   have hc1 := hinv.2.2.1
   (repeat first | refine uA ?_ | (apply S.exit; exact rfl) | (refine uK ?_ ?_; focus first | omega | trivial | exact id | (intros; simp_all <;> omega)) | simp (disch := omega) only [go_sem, Nat.reduceBEq, Nat.reduceAdd, Nat.reduceLeDiff, Int.reduceToNat, Int.reducePow, ww])
   (refine uJ rfl (fun hc => ?_) fun hc => ?_)
   ·have hi' : i < P.length := by omega
    have hgp : P[i]? = some P[i] := List.getElem?_eq_getElem hi'
    have hp32 := hP3 _ (List.getElem_mem hi')
    have hk := key P Q out i c hinv hi' hP3 hQ3
    rw [Nm.getD_lt hi'] at hk
    have hgo : out[i]? = some out[i] := List.getElem?_eq_getElem (by omega)
    generalize P[i] = pi at *
    (repeat first | refine uA ?_ | (apply S.exit; exact rfl) | (refine uK ?_ ?_; focus first | omega | trivial | exact id | (intros; simp_all <;> omega)) | simp (disch := omega) only [go_sem, Nat.reduceBEq, Nat.reduceAdd, Nat.reduceLeDiff, Int.reduceToNat, Int.reducePow, ww, o9, y9, hgp, Option.map_some, wd])
    (refine uJ rfl (fun hc => ?_) fun hc => ?_)
    ·have hi2 : i < Q.length := by omega
     have hgq : Q[i]? = some Q[i] := List.getElem?_eq_getElem hi2
     have hq32 := hQ3 _ (List.getElem_mem hi2)
     rw [Nm.getD_lt hi2] at hk
     generalize Q[i] = qi at *
     obtain ⟨s, hs⟩ : ∃ s : Nat, s = c + pi + qi := ⟨_, rfl⟩
     have hs' : (c : Int) + (pi : Int) + (qi : Int) = (s : Int) := by omega
     have hk := hk s hs
     (repeat first | refine uA ?_ | (apply S.exit; exact rfl) | (refine uK ?_ ?_; focus first | omega | trivial | exact id | (intros; simp_all <;> omega)) | simp (disch := omega) only [go_sem, Nat.reduceBEq, Nat.reduceAdd, Nat.reduceLeDiff, Int.reduceToNat, Int.reducePow, ww, o9, y9, hgq, hgo, Option.map_some, wd, hs', a0S, Y1, F8])
     refine S.next (x := (i, out, c)) (i + 1, _, _) ⟨hi', hk⟩ (by simp only; omega) (by (repeat first | refine uA ?_ | (refine ⟨?_, ?_⟩; focus first | rfl | trivial | (simp [slot]; done)) | rfl | trivial | simp))
    ·have hq0 : Q.getD i 0 = 0 := by rw [List.getD_eq_getElem?_getD, List.getElem?_eq_none (by omega)]; rfl
     rw [hq0, Nat.add_zero] at hk
     obtain ⟨s, hs⟩ : ∃ s : Nat, s = c + pi := ⟨_, rfl⟩
     have hs' : (c : Int) + (pi : Int) = (s : Int) := by omega
     have hk := hk s hs
     (repeat first | refine uA ?_ | (apply S.exit; exact rfl) | (refine uK ?_ ?_; focus first | omega | trivial | exact id | (intros; simp_all <;> omega)) | simp (disch := omega) only [go_sem, Nat.reduceBEq, Nat.reduceAdd, Nat.reduceLeDiff, Int.reduceToNat, Int.reducePow, ww, o9, y9, hgo, Option.map_some, wd, hs', a0S, Y1, F8])
     refine S.next (x := (i, out, c)) (i + 1, _, _) ⟨hi', hk⟩ (by simp only; omega) (by (repeat first | refine uA ?_ | (refine ⟨?_, ?_⟩; focus first | rfl | trivial | (simp [slot]; done)) | rfl | trivial | simp))
   ·have hi' : i = P.length := by omega
    subst hi'
    obtain ⟨he, h32⟩ := Nm.a9F hinv hle
    have hgo : out[P.length]? = some out[P.length] := List.getElem?_eq_getElem (by omega)
    rw [<- he]
    have ht := a3A (out.set P.length c) (by rw [List.length_set]; omega) h32
    (repeat first | refine uA ?_ | (apply S.exit; exact rfl) | (refine uK ?_ ?_; focus first | omega | trivial | exact id | (intros; simp_all <;> omega)) | simp (disch := omega) only [go_sem, Nat.reduceBEq, Nat.reduceAdd, Nat.reduceLeDiff, Int.reduceToNat, Int.reducePow, ww, o9, y9, hgo, Option.map_some, wd, F8] | (refine uC ht ?_ ?_ ?_; exact rfl; focus (repeat' first | exact l6.nil | exact Imp.refl rfl | exact Imp.frz rfl rfl rfl | (refine Imp.I8 rfl rfl ?_ ?_; (focus ((try simp only [List.length_append, o9, y9, hgo, Option.map_some, wd, F8]); omega)); (focus first | rfl | assumption)) | refine l6.cons ?_ ?_); done))
    exact S.done (d9.out rfl (Imp.refl rfl) rfl)
theorem a8z (p q c : Nat) (hp : p < 4294967296) (hq : q < 4294967296) (hc : c <= 1) : ∃ t c' : Nat, IntKind.u32.wrap (IntKind.u64.wrap (IntKind.u64.wrap ((p : Int) - (c : Int)) - (q : Int))) = (t : Int) /\ Int.fdiv (IntKind.u64.wrap (IntKind.u64.wrap ((p : Int) - (c : Int)) - (q : Int))) 9223372036854775808 = (c' : Int) /\ t < 4294967296 /\ c' <= 1 /\ t + c + q = p + 4294967296 * c' := by
 have h1 : ∀ n : Int, IntKind.u64.wrap n = n % 18446744073709551616 := fun n => by simp [IntKind.wrap, IntKind.signed, IntKind.bits]
 have h2 : ∀ n : Int, IntKind.u32.wrap n = n % 4294967296 := fun n => by simp [IntKind.wrap, IntKind.signed, IntKind.bits]
 rw [h1, h1, h2]
 by_cases h : c + q <= p
 ·refine ⟨p - c - q, 0, by omega, ?_, by omega, by omega, by omega⟩
  rw [show (((p : Int) - (c : Int)) % 18446744073709551616 - (q : Int)) % 18446744073709551616 = ((p - c - q : Nat) : Int) by omega]
  have := a1r (p - c - q) 9223372036854775808
  rw [show ((9223372036854775808 : Nat) : Int) = 9223372036854775808 from rfl] at this
  rw [this, Nat.div_eq_of_lt (by omega)]
 ·refine ⟨p + 4294967296 - c - q, 1, by omega, ?_, by omega, by omega, by omega⟩
  rw [show (((p : Int) - (c : Int)) % 18446744073709551616 - (q : Int)) % 18446744073709551616 = ((p + 18446744073709551616 - c - q : Nat) : Int) by omega]
  have := a1r (p + 18446744073709551616 - c - q) 9223372036854775808
  rw [show ((9223372036854775808 : Nat) : Int) = 9223372036854775808 from rfl] at this
  rw [this]
  congr 1
  omega
theorem b8A (p c : Nat) (hp : p < 4294967296) (hc : c <= 1) : ∃ t c' : Nat, IntKind.u32.wrap (IntKind.u64.wrap ((p : Int) - (c : Int))) = (t : Int) /\ Int.fdiv (IntKind.u64.wrap ((p : Int) - (c : Int))) 9223372036854775808 = (c' : Int) /\ t < 4294967296 /\ c' <= 1 /\ t + c + 0 = p + 4294967296 * c' := by
 obtain ⟨t, c', h1, h2, h3⟩ := a8z p 0 c hp (by omega) hc
 have e : IntKind.u64.wrap (IntKind.u64.wrap ((p : Int) - (c : Int)) - ((0 : Nat) : Int)) = IntKind.u64.wrap ((p : Int) - (c : Int)) := by
  have h1 : ∀ n : Int, IntKind.u64.wrap n = n % 18446744073709551616 := fun n => by simp [IntKind.wrap, IntKind.signed, IntKind.bits]
  rw [h1, h1]; omega
 rw [e] at h1 h2
 exact ⟨t, c', h1, h2, h3⟩
theorem c2D {E : Ctx} (hP : E.P = Tryz.prog) (xs ys : List Nat) (hl : xs.length <= 274877906944) (hyl : ys.length <= xs.length) (hx : Nm.D9 xs) (hy : Nm.D9 ys) (hle : Nm.wv 4294967296 ys <= Nm.wv 4294967296 xs) :
  p8 E [.row 240 1 (ws xs)] 226 [.rv 0, .sl 1 (ws ys)] (.tup []) [.row 240 1 (ws (Nm.dig 4294967296 xs.length (Nm.wv 4294967296 xs - Nm.wv 4294967296 ys)))] [] := by
 obtain ⟨P, eff', N, w0, own0, av0, nu0, pk0⟩ := E
 simp only at hP
 subst hP
 refine p8.of (eff := eff) b4t b4K (by exact Nat.le_of_ble_eq_true rfl) fun w own av ν hν => ?_
 simp only [a7I, l5, TT, II, OA, OB, OC, MM, LL, VV, FF, MG, LG, VG, FG]
 have hν0 : ν.length <= 1 := by rw [hν]; exact Nat.le_refl _
 (repeat first | refine uA ?_ | (apply S.exit; exact rfl) | (refine uK ?_ ?_; focus first | omega | trivial | exact id | (intros; simp_all <;> omega)) | simp (disch := omega) only [go_sem, Nat.reduceBEq, Nat.reduceAdd, Nat.reduceLeDiff, Int.reduceToNat, Int.reducePow, ww, o9])
 refine S.loop (X := Nat × List Nat × Nat) (fun x => ⟨[(0, .rv 0), (1, .sl 1 (ws ys)), (4, .v (.int .u64 (x.2.2 : Int))), (8, .rv 0), (9, ints xs.length), (10, ints x.1)], [.row 240 1 (ws x.2.1)]⟩) (fun x => x.1 <= xs.length /\ Nm.a6t xs ys x.1 x.2.1 x.2.2) (fun x => xs.length - x.1) (0, xs, 0) ⟨Nat.zero_le _, Nm.b3X ys hx⟩ (Ent.mk _ _ (by (repeat first | refine uA ?_ | (refine ⟨?_, ?_⟩; focus first | rfl | trivial | (simp [slot]; done)) | rfl | trivial | simp)) (by (repeat first | refine uA ?_ | (refine ⟨?_, ?_⟩; focus first | rfl | trivial | (simp [slot]; done)) | rfl | trivial | simp)) hν0) ?_
 rintro ⟨i, out, c⟩ ⟨hi, hinv⟩
 simp only [ints] at hi hinv ⊢
 have hol := hinv.1
 have hc1 := hinv.2.2.1
 (repeat first | refine uA ?_ | (apply S.exit; exact rfl) | (refine uK ?_ ?_; focus first | omega | trivial | exact id | (intros; simp_all <;> omega)) | simp (disch := omega) only [go_sem, Nat.reduceBEq, Nat.reduceAdd, Nat.reduceLeDiff, Int.reduceToNat, Int.reducePow, ww])
 (refine uJ rfl (fun hc => ?_) fun hc => ?_)
 ·have hi' : i < xs.length := by omega
  have hgp : xs[i]? = some xs[i] := List.getElem?_eq_getElem hi'
  have hgo : out[i]? = some xs[i] := by rw [Nm.Z4 hinv.2.2.2.1, hgp]
  have hp32 := hx _ (List.getElem_mem hi')
  have hk := fun t c' h1 h2 h3 => Nm.b4a (t := t) (c' := c') hinv hi' h1 h2 h3
  generalize xs[i] = pi at *
  (repeat first | refine uA ?_ | (apply S.exit; exact rfl) | (refine uK ?_ ?_; focus first | omega | trivial | exact id | (intros; simp_all <;> omega)) | simp (disch := omega) only [go_sem, Nat.reduceBEq, Nat.reduceAdd, Nat.reduceLeDiff, Int.reduceToNat, Int.reducePow, ww, o9, y9, hgo, Option.map_some, wd])
  (refine uJ rfl (fun hc => ?_) fun hc => ?_)
  ·have hi2 : i < ys.length := by omega
   have hgq : ys[i]? = some ys[i] := List.getElem?_eq_getElem hi2
   have hq32 := hy _ (List.getElem_mem hi2)
   rw [Nm.getD_lt hi2] at hk
   generalize ys[i] = qi at *
   obtain ⟨t, c', e1, e2, h1, h2, h3⟩ := a8z pi qi c hp32 hq32 hc1
   have hk := hk t c' h1 h2 h3
   (repeat first | refine uA ?_ | (apply S.exit; exact rfl) | (refine uK ?_ ?_; focus first | omega | trivial | exact id | (intros; simp_all <;> omega)) | simp (disch := omega) only [go_sem, Nat.reduceBEq, Nat.reduceAdd, Nat.reduceLeDiff, Int.reduceToNat, Int.reducePow, ww, o9, y9, hgq, hgo, Option.map_some, wd, e1, e2, F8])
   refine S.next (x := (i, out, c)) (i + 1, _, _) ⟨hi', hk⟩ (by simp only; omega) (Ent.mk _ _ (by (repeat first | refine uA ?_ | (refine ⟨?_, ?_⟩; focus first | rfl | trivial | (simp [slot]; done)) | rfl | trivial | simp)) (by (repeat first | refine uA ?_ | (refine ⟨?_, ?_⟩; focus first | rfl | trivial | (simp [slot]; done)) | rfl | trivial | simp)) hν0)
  ·have hq0 : ys.getD i 0 = 0 := by rw [List.getD_eq_getElem?_getD, List.getElem?_eq_none (by omega)]; rfl
   rw [hq0] at hk
   obtain ⟨t, c', e1, e2, h1, h2, h3⟩ := b8A pi c hp32 hc1
   have hk := hk t c' h1 h2 h3
   (repeat first | refine uA ?_ | (apply S.exit; exact rfl) | (refine uK ?_ ?_; focus first | omega | trivial | exact id | (intros; simp_all <;> omega)) | simp (disch := omega) only [go_sem, Nat.reduceBEq, Nat.reduceAdd, Nat.reduceLeDiff, Int.reduceToNat, Int.reducePow, ww, o9, y9, hgo, Option.map_some, wd, e1, e2, F8])
   refine S.next (x := (i, out, c)) (i + 1, _, _) ⟨hi', hk⟩ (by simp only; omega) (Ent.mk _ _ (by (repeat first | refine uA ?_ | (refine ⟨?_, ?_⟩; focus first | rfl | trivial | (simp [slot]; done)) | rfl | trivial | simp)) (by (repeat first | refine uA ?_ | (refine ⟨?_, ?_⟩; focus first | rfl | trivial | (simp [slot]; done)) | rfl | trivial | simp)) hν0)
 ·have hi' : i = xs.length := by omega
  subst hi'
  obtain ⟨he1, he2⟩ := Nm.b6y hinv hyl hle
  have hd : out = Nm.dig 4294967296 xs.length (Nm.wv 4294967296 xs - Nm.wv 4294967296 ys) := Nm.R6 (by decide) hinv.2.1 hol (by omega)
  rw [<- hd]
  (repeat first | refine uA ?_ | (apply S.exit; exact rfl) | (refine uK ?_ ?_; focus first | omega | trivial | exact id | (intros; simp_all <;> omega)) | simp (disch := omega) only [go_sem, Nat.reduceBEq, Nat.reduceAdd, Nat.reduceLeDiff, Int.reduceToNat, Int.reducePow, ww])
  exact S.end_ (d9.own rfl)
end Go.Proofs.YtogfpjohjphngaaGreatDoor
namespace Go.Proofs
open Go.Shelf
def Tryz.b4H : Go.Shelf.Ren := ⟨fun | 133 => 244 | 128 => 258 | n => n, fun | 51 => 240 | 3 => 3 | 4 => 4 | 46 => 192 | 5 => 5 | 9 => 9 | n => n, fun | n => n⟩
theorem Tryz.c0S : Go.Proofs.Lays.n133 Tryz.prog Tryz.b4H := {
 mixed := by kernel_rfl
 f128 := Tryz.func258.trans (congrArg some (by kernel_rfl))
 f133 := Tryz.func244.trans (congrArg some (by kernel_rfl))
 t3 := Tryz.underlying3
 a3 := Tryz.isAgg3
 z3 := Tryz.sizeOf3
 v3 := Tryz.zeroValue3
 t4 := Tryz.underlying4
 a4 := Tryz.isAgg4
 z4 := Tryz.sizeOf4
 v4 := Tryz.zeroValue4
 t5 := Tryz.underlying5
 a5 := Tryz.isAgg5
 z5 := Tryz.sizeOf5
 v5 := Tryz.zeroValue5
 t9 := Tryz.underlying9
 a9 := Tryz.isAgg9
 z9 := Tryz.sizeOf9
 v9 := Tryz.zeroValue9
 t46 := Tryz.underlying192
 a46 := Tryz.isAgg192
 z46 := Tryz.sizeOf192
 v46 := Tryz.zeroValue192
 t51 := Tryz.underlying240
 a51 := Tryz.isAgg240
 z51 := Tryz.sizeOf240
 v51 := Tryz.zeroValue240 }
theorem Tryz.bits_LeadingZeros32 (x : Int) (w : World) (h0 : 0 <= x) (h1 : x <= 4294967295) :
  Calls Tryz.prog 244 #[.int .u32 x] w fun e w' => e = .returned (.int .i64 (32 - (Lib.bitLen x.toNat : Int))) /\ w' = w := Any.bits_LeadingZeros32 Tryz.c0S x w h0 h1
def Tryz.b4v : Go.Shelf.Ren := ⟨fun | 106 => 214 | 213 => 233 | 265 => 252 | n => n, fun | 9 => 9 | 3 => 3 | n => n, fun | n => n⟩
theorem Tryz.c0L : Go.Proofs.Lays.n106 Tryz.prog Tryz.b4v := {
 mixed := by kernel_rfl
 f106 := Tryz.func214.trans (congrArg some (by kernel_rfl))
 f213 := Tryz.func233.trans (congrArg some (by kernel_rfl))
 f265 := Tryz.func252.trans (congrArg some (by kernel_rfl))
 t3 := Tryz.underlying3
 a3 := Tryz.isAgg3
 z3 := Tryz.sizeOf3
 v3 := Tryz.zeroValue3
 t9 := Tryz.underlying9
 a9 := Tryz.isAgg9
 z9 := Tryz.sizeOf9
 v9 := Tryz.zeroValue9 }
open Go.RowKit in
theorem Tryz.strings_Compare (a b : ByteArray) (w : World) :
  Calls Tryz.prog 214 #[.string a, .string b] w fun e w' => e = .returned (.int .i64 (Lib.compareBytes a.data.toList b.data.toList)) /\ w' = w := Any.strings_Compare Tryz.c0L a b w
end Go.Proofs
namespace Go.Proofs.YtogfpjohjphngaaGreatDoor
open Go Go.RowKit Eng
set_option maxRecDepth 10000
set_option maxHeartbeats 1000000
theorem a7T : ∀ {a b : List UInt8}, a.length = b.length -> Lib.compareBytes a b = Nm.Z0 (Nm.val a) (Nm.val b)
 | [], [], _ => rfl
 | [], _ :: _, h => by cases h
 | _ :: _, [], h => by cases h
 | x :: a, y :: b, h => by
  simp only [List.length_cons, Nat.add_right_cancel_iff] at h
  have ih := a7T h
  have ha := Nm.U7 a
  have hb := Nm.U7 b
  rw [h] at ha
  simp only [Lib.compareBytes, ih, Nm.Z0, Nm.V4, h, UInt8.lt_iff_toNat_lt]
  rcases Nat.lt_trichotomy x.toNat y.toNat with hl | hl | hl
  ·have := Nat.mul_le_mul_right (256 ^ b.length) hl
   rw [Nat.succ_mul] at this
   rw [if_pos hl, if_pos (by omega)]
  ·rw [if_neg (by omega), if_neg (by omega), hl]
   repeat' split
   all_goals omega
  ·have := Nat.mul_le_mul_right (256 ^ b.length) hl
   rw [Nat.succ_mul] at this
   rw [if_neg (by omega), if_pos hl, if_neg (by omega), if_neg (by omega)]
theorem b7I (a b : List UInt8) : r9 Tryz.prog 214 [sb a, sb b] (ints (Lib.compareBytes a b)) := by
 intro O w vs hO hA
 simp only [FzL, sb, Fz] at hA
 obtain ⟨y, ys, rfl, rfl, z, zs, rfl, rfl, rfl⟩ := hA
 refine (Tryz.strings_Compare (bs a) (bs b) w).mono ?_
 rintro e w' ⟨rfl, rfl⟩
 exact ⟨_, rfl, Below.refl _ _, by simp only [ints, Fz, M5]⟩
theorem a9q (a b : List UInt8) (ha : a.length <= 1099511627776) (hb : b.length <= 1099511627776) : r9 Tryz.prog 156 [sb a, sb b] (ints (Nm.Z0 (Nm.val a) (Nm.val b))) := by
 refine r9.of b7u b5T (by exact Nat.le_of_ble_eq_true rfl) fun w O => ?_
 simp only [a9y, l5, TT, II, OA, OB, OC, MM, LL, VV, FF, MG, LG, VG, FG, sb, ints]
 have fta := a0f a ha
 have ftb := a0f b hb
 have hca := Nm.Q6 a
 have hcb := Nm.Q6 b
 rw [<- Nm.L9 a, <- Nm.L9 b]
 generalize Nm.trim a = x at *
 generalize Nm.trim b = y at *
 (repeat first | refine uA ?_ | (apply S.exit; exact rfl) | (refine uK ?_ ?_; focus first | omega | trivial | exact id | (intros; simp_all <;> omega)) | simp (disch := omega) only [go_sem, Nat.reduceBEq, Nat.reduceAdd, Nat.reduceLeDiff, Int.reduceToNat, Int.reducePow, ww, y8] | (refine uB fta ?_ ?_; exact rfl) | (refine uB ftb ?_ ?_; exact rfl))
 (refine uJ rfl (fun hc => ?_) fun hc => ?_)
 ·have := Nm.a1L hcb (a := x) (by omega)
  have he : Nm.Z0 (Nm.val x) (Nm.val y) = -1 := by unfold Nm.Z0; rw [if_pos this]
  rw [he]
  (repeat first | refine uA ?_ | (apply S.exit; exact rfl) | (refine uK ?_ ?_; focus first | omega | trivial | exact id | (intros; simp_all <;> omega)) | simp (disch := omega) only [go_sem, Nat.reduceBEq, Nat.reduceAdd, Nat.reduceLeDiff, Int.reduceToNat, Int.reducePow, ww])
  exact S.done (d9.out rfl (Imp.refl rfl) rfl)
 (repeat first | refine uA ?_ | (apply S.exit; exact rfl) | (refine uK ?_ ?_; focus first | omega | trivial | exact id | (intros; simp_all <;> omega)) | simp (disch := omega) only [go_sem, Nat.reduceBEq, Nat.reduceAdd, Nat.reduceLeDiff, Int.reduceToNat, Int.reducePow, ww, y8])
 (refine uJ rfl (fun hc => ?_) fun hc => ?_)
 ·have := Nm.a1L hca (a := y) (by omega)
  have he : Nm.Z0 (Nm.val x) (Nm.val y) = 1 := by unfold Nm.Z0; rw [if_neg (by omega), if_neg (by omega)]
  rw [he]
  (repeat first | refine uA ?_ | (apply S.exit; exact rfl) | (refine uK ?_ ?_; focus first | omega | trivial | exact id | (intros; simp_all <;> omega)) | simp (disch := omega) only [go_sem, Nat.reduceBEq, Nat.reduceAdd, Nat.reduceLeDiff, Int.reduceToNat, Int.reducePow, ww])
  exact S.done (d9.out rfl (Imp.refl rfl) rfl)
 ·have hl : x.length = y.length := by omega
  have fc := b7I x y
  rw [a7T hl] at fc
  (repeat first | refine uA ?_ | (apply S.exit; exact rfl) | (refine uK ?_ ?_; focus first | omega | trivial | exact id | (intros; simp_all <;> omega)) | simp (disch := omega) only [go_sem, Nat.reduceBEq, Nat.reduceAdd, Nat.reduceLeDiff, Int.reduceToNat, Int.reducePow, ww] | (refine uB fc ?_ ?_; exact rfl))
  exact S.done (d9.out rfl (Imp.refl rfl) rfl)
def J9 (a b : Nat) : List UInt8 := if b <= a then Nm.enc (a - b) else []
def a3H (a b : Nat) : Int := if b <= a then 0 else 1
theorem b3l (a b : Nat) : Nm.Z0 a b < 0 <-> a < b := by unfold Nm.Z0; repeat' split; all_goals omega
theorem c0m (a b : List UInt8) (ha : a.length <= 549755813888) (hb : b.length <= 549755813888) : r9 Tryz.prog 182 [sb a, sb b] (.tup [sb (J9 (Nm.val a) (Nm.val b)), ints (a3H (Nm.val a) (Nm.val b))]) := by
  refine r9.of b6m b6J (by exact Nat.le_of_ble_eq_true rfl) fun w O => ?_
  simp only [a9g, l5, TT, II, OA, OB, OC, MM, LL, VV, FF, MG, LG, VG, FG, sb, ints]
  have hcn := b3l (Nm.val a) (Nm.val b)
  (repeat first | refine uA ?_ | (apply S.exit; exact rfl) | (refine uK ?_ ?_; focus first | omega | trivial | exact id | (intros; simp_all <;> omega)) | simp (disch := omega) only [go_sem, Nat.reduceBEq, Nat.reduceAdd, Nat.reduceLeDiff, Int.reduceToNat, Int.reducePow, ww] | (refine uB (a9q a b (by omega) (by omega)) ?_ ?_; exact rfl))
  (refine uJ rfl (fun hc => ?_) fun hc => ?_)
  · have h1 := hcn.1 hc
    have e1 : J9 (Nm.val a) (Nm.val b) = [] := by unfold J9; rw [if_neg (by omega)]
    have e2 : a3H (Nm.val a) (Nm.val b) = 1 := by unfold a3H; rw [if_neg (by omega)]
    rw [e1, e2]
    (repeat first | refine uA ?_ | (apply S.exit; exact rfl) | (refine uK ?_ ?_; focus first | omega | trivial | exact id | (intros; simp_all <;> omega)) | simp (disch := omega) only [go_sem, Nat.reduceBEq, Nat.reduceAdd, Nat.reduceLeDiff, Int.reduceToNat, Int.reducePow, ww])
    exact S.done (d9.out rfl (Imp.refl rfl) rfl)
  · have h1 : Nm.val b <= Nm.val a := by
      rcases Nat.lt_or_ge (Nm.val a) (Nm.val b) with h | h
      · exact absurd (hcn.2 h) hc
      · exact h
    have e1 : J9 (Nm.val a) (Nm.val b) = Nm.enc (Nm.val a - Nm.val b) := by unfold J9; rw [if_pos h1]
    have e2 : a3H (Nm.val a) (Nm.val b) = 0 := by unfold a3H; rw [if_pos h1]
    rw [e1, e2]
    have hta := Nm.S9 a
    have htb := Nm.S9 b
    have hla := Nm.Q0 a
    have hlb := Nm.Q0 b
    have hwa := Nm.Y7 a
    have hwb := Nm.Y7 b
    have h3a := Nm.Y5 a
    have h3b := Nm.Y5 b
    have fwa := a1C a (by omega)
    have fwb := (a1C b (by omega)).spec
    have hle : (Nm.H6 b).length <= (Nm.H6 a).length := by
      rcases Nat.lt_or_ge (Nm.H6 a).length (Nm.H6 b).length with h | h
      · exfalso
        have h2 := Nm.a6C b (fun e => by rw [e] at h; simp at h)
        have h3 := Nm.I7 4294967296 h3a
        have h4 : 4294967296 ^ (Nm.H6 a).length <= 4294967296 ^ ((Nm.H6 b).length - 1) := Nat.pow_le_pow_right (by decide) (by omega)
        omega
      · exact h
    have h1w : Nm.wv 4294967296 (Nm.H6 b) <= Nm.wv 4294967296 (Nm.H6 a) := by rw [hwa, hwb]; exact h1
    rw [<- hwa, <- hwb]
    clear hwa hwb h1 hc hcn e1 e2
    generalize Nm.H6 a = p at *
    generalize Nm.H6 b = q at *
    have hd1 : Nm.wv 4294967296 (Nm.dig 4294967296 p.length (Nm.wv 4294967296 p - Nm.wv 4294967296 q)) = Nm.wv 4294967296 p - Nm.wv 4294967296 q := by
      refine Nm.Q7 ?_
      have := Nm.I7 4294967296 h3a
      omega
    have ft := a3A (Nm.dig 4294967296 p.length (Nm.wv 4294967296 p - Nm.wv 4294967296 q)) (by rw [Nm.G7]; omega) (Nm.a0p (by decide) _ _)
    rw [hd1] at ft
    (repeat first | refine uA ?_ | (apply S.exit; exact rfl) | (refine uK ?_ ?_; focus first | omega | trivial | exact id | (intros; simp_all <;> omega)) | simp (disch := omega) only [go_sem, Nat.reduceBEq, Nat.reduceAdd, Nat.reduceLeDiff, Int.reduceToNat, Int.reducePow, ww] | refine q9.t (FNew.t fwa rfl) ?_ | refine q9.t (c2D rfl p q (by omega) hle h3a h3b h1w) ?_ | (refine uB fwb ?_ ?_; exact rfl) | (refine uC ft ?_ ?_ ?_; exact rfl; focus (repeat' first | exact l6.nil | exact Imp.refl rfl | exact Imp.frz rfl rfl rfl | (refine Imp.I8 rfl rfl ?_ ?_; (focus ((try simp only [List.length_append]); omega)); (focus first | rfl | assumption)) | refine l6.cons ?_ ?_); done))
    exact S.done (d9.out rfl (Imp.refl rfl) rfl)
theorem a2q (a b : List UInt8) (ha : a.length <= 274877906944) (hb : b.length <= 274877906944) : r9 Tryz.prog 79 [sb a, sb b] (sb (Nm.enc (Nm.val a * Nm.val b))) := by
 refine r9.of b6X b6d (by exact Nat.le_of_ble_eq_true rfl) fun w O => ?_
 simp only [a9o, l5, TT, II, OA, OB, OC, MM, LL, VV, FF, MG, LG, VG, FG, sb]
 have hta := Nm.S9 a
 have htb := Nm.S9 b
 have hva := Nm.L9 a
 have hvb := Nm.L9 b
 have hla := Nm.Q0 (Nm.trim a)
 have hlb := Nm.Q0 (Nm.trim b)
 have hwa := Nm.Y7 (Nm.trim a)
 have hwb := Nm.Y7 (Nm.trim b)
 have h3a := Nm.Y5 (Nm.trim a)
 have h3b := Nm.Y5 (Nm.trim b)
 have fta := a0f a (by omega)
 have ftb := a0f b (by omega)
 rw [Nm.a6j] at hla hlb
 rw [<- hva, <- hvb]
 clear hva hvb
 generalize Nm.trim a = x at *
 generalize Nm.trim b = y at *
 (repeat first | refine uA ?_ | (apply S.exit; exact rfl) | (refine uK ?_ ?_; focus first | omega | trivial | exact id | (intros; simp_all <;> omega)) | simp (disch := omega) only [go_sem, Nat.reduceBEq, Nat.reduceAdd, Nat.reduceLeDiff, Int.reduceToNat, Int.reducePow, ww, y8] | (refine uB fta ?_ ?_; exact rfl) | (refine uB ftb ?_ ?_; exact rfl))
 (refine uJ rfl (fun hc => ?_) fun hc => ?_)
 ·have hx := Nm.U7 x
  have hy := Nm.U7 y
  have hp : Nm.val x * Nm.val y < 18446744073709551616 := by
   refine Nat.lt_of_lt_of_le (Nat.mul_lt_mul'' hx hy) ?_
   rw [<- Nat.pow_add, show 18446744073709551616 = 256 ^ 8 by decide]
   exact Nat.pow_le_pow_right (by decide) (by omega)
  have fx := a1z x (by omega)
  have fy := a1z y (by omega)
  have hx7 := Nm.Y0 (l := x) (k := 8) (by omega)
  have hy7 := Nm.Y0 (l := y) (k := 8) (by omega)
  have e1 : Nm.val x % 18446744073709551616 = Nm.val x := Nat.mod_eq_of_lt (by omega)
  have e2 : Nm.val y % 18446744073709551616 = Nm.val y := Nat.mod_eq_of_lt (by omega)
  rw [e1] at fx
  rw [e2] at fy
  have hf := Z7 (Nm.val x * Nm.val y) hp
  have hm : IntKind.u64.wrap ((Nm.val x : Int) * (Nm.val y : Int)) = ((Nm.val x * Nm.val y : Nat) : Int) := by
   rw [Eng.wrap_u64]
   ·simp
   ·rw [<- Int.natCast_mul]; omega
  (repeat first | refine uA ?_ | (apply S.exit; exact rfl) | (refine uK ?_ ?_; focus first | omega | trivial | exact id | (intros; simp_all <;> omega)) | simp (disch := omega) only [go_sem, Nat.reduceBEq, Nat.reduceAdd, Nat.reduceLeDiff, Int.reduceToNat, Int.reducePow, ww, hm] | (refine uB fx ?_ ?_; exact rfl) | (refine uB fy ?_ ?_; exact rfl) | (refine uB hf ?_ ?_; exact rfl))
  exact S.done (d9.out rfl (Imp.refl rfl) rfl)
 ·have hwx := (a1C x (by omega)).spec
  have hwy := (a1C y (by omega)).spec
  rw [<- hwa, <- hwb]
  clear hwa hwb fta ftb hc
  generalize Nm.H6 x = p at *
  generalize Nm.H6 y = q at *
  have hpl : p.length <= 68719476737 := by omega
  have hql : q.length <= 68719476737 := by omega
  (repeat first | refine uA ?_ | (apply S.exit; exact rfl) | (refine uK ?_ ?_; focus first | omega | trivial | exact id | (intros; simp_all <;> omega)) | simp (disch := omega) only [go_sem, Nat.reduceBEq, Nat.reduceAdd, Nat.reduceLeDiff, Int.reduceToNat, Int.reducePow, ww, o9] | (refine uB hwx ?_ ?_; exact rfl) | (refine uB hwy ?_ ?_; exact rfl))
  have hn1 : ((p.length : Int) + (q.length : Int)).toNat = p.length + q.length := by omega
  clear hwx hwy
  refine S.loop (X := Nat × List Nat) (fun x => ⟨[(5, .sl 1 (ws p)), (6, .sl 1 (ws q)), (7, .rv 0), (39, .sl 1 (ws p)), (40, ints p.length), (41, ints x.1)], [.row 240 1 (ws x.2)]⟩) (fun x => x.1 <= p.length /\ Nm.a6T p q x.1 x.2) (fun x => p.length - x.1) (0, List.replicate (p.length + q.length) 0) ⟨Nat.zero_le _, Nm.b4T p q⟩ (by simp only [<- a2m]; rw [hn1]; exact (by (repeat first | refine uA ?_ | (refine ⟨?_, ?_⟩; focus first | rfl | trivial | (simp [slot]; done)) | rfl | trivial | simp))) ?_
  rintro ⟨i, out0⟩ ⟨hi, hinv⟩
  simp only [ints] at hi hinv ⊢
  have hol := hinv.1
  (repeat first | refine uA ?_ | (apply S.exit; exact rfl) | (refine uK ?_ ?_; focus first | omega | trivial | exact id | (intros; simp_all <;> omega)) | simp (disch := omega) only [go_sem, Nat.reduceBEq, Nat.reduceAdd, Nat.reduceLeDiff, Int.reduceToNat, Int.reducePow, ww])
  (refine uJ rfl (fun hc => ?_) fun hc => ?_)
  ·have hi' : i < p.length := by omega
   have hgp : p[i]? = some p[i] := List.getElem?_eq_getElem hi'
   have hp32 := h3a _ (List.getElem_mem hi')
   (repeat first | refine uA ?_ | (apply S.exit; exact rfl) | (refine uK ?_ ?_; focus first | omega | trivial | exact id | (intros; simp_all <;> omega)) | simp (disch := omega) only [go_sem, Nat.reduceBEq, Nat.reduceAdd, Nat.reduceLeDiff, Int.reduceToNat, Int.reducePow, ww, o9, y9, hgp, Option.map_some, wd])
   refine S.loop (X := Nat × List Nat × Nat) (fun x => ⟨[(5, .sl 1 (ws p)), (6, .sl 1 (ws q)), (7, .rv 0), (39, .sl 1 (ws p)), (40, ints p.length), (41, ints i), (8, ints i), (9, .v (.int .u32 (p[i] : Int))), (10, .v (.int .u64 (x.2.2 : Int))), (46, .sl 1 (ws q)), (47, ints q.length), (48, ints x.1)], [.row 240 1 (ws x.2.1)]⟩) (fun x => x.1 <= q.length /\ Nm.a8P p q i x.1 x.2.1 x.2.2) (fun x => q.length - x.1) (0, out0, 0) ⟨Nat.zero_le _, Nm.b6q hinv⟩ (by (repeat first | refine uA ?_ | (refine ⟨?_, ?_⟩; focus first | rfl | trivial | (simp [slot]; done)) | rfl | trivial | simp)) ?_
   clear hinv hol
   rintro ⟨k, out, c⟩ ⟨hk, hinv⟩
   simp only [ints] at hk hinv ⊢
   have hol := hinv.1
   have hc1 := hinv.2.2.1
   (repeat first | refine uA ?_ | (apply S.exit; exact rfl) | (refine uK ?_ ?_; focus first | omega | trivial | exact id | (intros; simp_all <;> omega)) | simp (disch := omega) only [go_sem, Nat.reduceBEq, Nat.reduceAdd, Nat.reduceLeDiff, Int.reduceToNat, Int.reducePow, ww])
   (refine uJ rfl (fun hc => ?_) fun hc => ?_)
   ·have hk' : k < q.length := by omega
    have hgq : q[k]? = some q[k] := List.getElem?_eq_getElem hk'
    have hq32 := h3b _ (List.getElem_mem hk')
    have hgo : out[i + k]? = some (out[i + k]'(by omega)) := List.getElem?_eq_getElem (by omega)
    have ho32 := hinv.2.1 _ (List.getElem_mem (show i + k < out.length by omega))
    obtain ⟨hs, hsb⟩ := Nm.b7p hinv hi' hk' hp32 hq32 (by omega) rfl
    generalize hP : p[i] = pi at *
    generalize q[k] = qk at *
    generalize hO : out[i + k]'(by omega) = o at *
    obtain ⟨m, hm⟩ : ∃ m : Nat, m = pi * qk := ⟨_, rfl⟩
    have hm' : (pi : Int) * (qk : Int) = (m : Int) := by rw [hm]; simp
    rw [<- hm] at hs hsb
    have hs' : (c : Int) + ((m : Int) + (o : Int)) = ((c + m + o : Nat) : Int) := by omega
    have hik : ((i : Int) + (k : Int)).toNat = i + k := by omega
    (repeat first | refine uA ?_ | (apply S.exit; exact rfl) | (refine uK ?_ ?_; focus first | omega | trivial | exact id | (intros; simp_all <;> omega)) | simp (disch := omega) only [go_sem, Nat.reduceBEq, Nat.reduceAdd, Nat.reduceLeDiff, Int.reduceToNat, Int.reducePow, ww, o9, y9, hgq, hgo, Option.map_some, wd, hm', hs', hik, a0S, Y1, F8])
    refine S.next (x := (k, out, c)) (k + 1, _, _) ⟨hk', hs⟩ (by simp only; omega) (by (repeat first | refine uA ?_ | (refine ⟨?_, ?_⟩; focus first | rfl | trivial | (simp [slot]; done)) | rfl | trivial | simp))
   ·have hk' : k = q.length := by omega
    subst hk'
    have he := Nm.b7E hinv hi'
    have hik : ((i : Int) + (q.length : Int)).toNat = i + q.length := by omega
    have hgo : out[i + q.length]? = some (out[i + q.length]'(by omega)) := List.getElem?_eq_getElem (by omega)
    (repeat first | refine uA ?_ | (apply S.exit; exact rfl) | (refine uK ?_ ?_; focus first | omega | trivial | exact id | (intros; simp_all <;> omega)) | simp (disch := omega) only [go_sem, Nat.reduceBEq, Nat.reduceAdd, Nat.reduceLeDiff, Int.reduceToNat, Int.reducePow, ww, o9, y9, hgo, Option.map_some, wd, hik, F8])
    refine S.next (x := (i, out0)) (i + 1, _) ⟨hi', he⟩ (by simp only; omega) (by (repeat first | refine uA ?_ | (refine ⟨?_, ?_⟩; focus first | rfl | trivial | (simp [slot]; done)) | rfl | trivial | simp))
  ·have hi' : i = p.length := by omega
   subst hi'
   have he := Nm.b5Y hinv
   rw [<- he]
   have ht := a3A out0 (by omega) hinv.2.1
   (repeat first | refine uA ?_ | (apply S.exit; exact rfl) | (refine uK ?_ ?_; focus first | omega | trivial | exact id | (intros; simp_all <;> omega)) | simp (disch := omega) only [go_sem, Nat.reduceBEq, Nat.reduceAdd, Nat.reduceLeDiff, Int.reduceToNat, Int.reducePow, ww] | (refine uC ht ?_ ?_ ?_; exact rfl; focus (repeat' first | exact l6.nil | exact Imp.refl rfl | exact Imp.frz rfl rfl rfl | (refine Imp.I8 rfl rfl ?_ ?_; (focus ((try simp only [List.length_append]); omega)); (focus first | rfl | assumption)) | refine l6.cons ?_ ?_); done))
   exact S.done (d9.out rfl (Imp.refl rfl) rfl)
theorem b5F (x r : Nat) (h : x * 2 ^ r < 18446744073709551616) (hr : r < 64) : IntKind.u64.wrap ((x : Int) * 2 ^ min r 64) = ((x * 2 ^ r : Nat) : Int) := by
 rw [show min r 64 = r by omega, Eng.wrap_u64]
 ·simp
 ·have e : (x : Int) * 2 ^ r = ((x * 2 ^ r : Nat) : Int) := by simp
  rw [e]; omega
theorem b7G (o n : Nat) (ho : o < 4294967296) : bits .or .u32 (o : Int) (((n % 4294967296 : Nat)) : Int) = ((o ||| n % 4294967296 : Nat) : Int) := b8V _ _ ho (Nat.mod_lt _ (by decide))
theorem b7Z (x : List Nat) (r : Nat) (hl : x.length <= 274877906940) (hx : Nm.D9 x) (hr : r < 32) : FNew Tryz.prog 245 [.sl 1 (ws x), ints r] 240 1 (ws (Nm.dig 4294967296 (x.length + 1) (Nm.wv 4294967296 x * 2 ^ r))) := by
 refine FNew.of b4c b3U (by exact Nat.le_of_ble_eq_true rfl) fun w O => ?_
 simp only [a7N, l5, TT, II, OA, OB, OC, MM, LL, VV, FF, MG, LG, VG, FG, ints]
 (repeat first | refine uA ?_ | (apply S.exit; exact rfl) | (refine uK ?_ ?_; focus first | omega | trivial | exact id | (intro h; rw [h]; rfl) | (intro h h2; rw [h, h2]; rfl) | (intro h; (try simp at h); omega) | (intros; simp_all <;> omega)) | simp only [go_sem, Nat.reduceBEq, Nat.reduceAdd, Nat.reduceLeDiff, Int.reduceToNat, Int.reducePow, o9] | simp (disch := omega) only [ww, o9])
 have hn1 : ((x.length : Int) + 1).toNat = x.length + 1 := by omega
 refine S.loop (X := Nat × List Nat) (fun s => ⟨[(0, .sl 1 (ws x)), (1, ints r), (5, .rv 0), (13, .sl 1 (ws x)), (14, ints x.length), (15, ints s.1)], [.row 240 1 (ws s.2)]⟩) (fun s => s.1 <= x.length /\ Nm.leftInv x (2 ^ r) s.1 s.2) (fun s => x.length - s.1) (0, List.replicate (x.length + 1) 0) ⟨Nat.zero_le _, Nm.b2D x (Nat.pow_pos (by decide))⟩ (by simp only [<- a2m]; rw [hn1]; exact (by (repeat first | refine uA ?_ | (refine ⟨?_, ?_⟩; focus first | rfl | trivial | (simp [slot]; done)) | rfl | trivial | simp))) ?_
 rintro ⟨i, out⟩ ⟨hi, hinv⟩
 simp only [ints] at hi hinv ⊢
 have hol := hinv.1
 (repeat first | refine uA ?_ | (apply S.exit; exact rfl) | (refine uK ?_ ?_; focus first | omega | trivial | exact id | (intro h; rw [h]; rfl) | (intro h h2; rw [h, h2]; rfl) | (intro h; (try simp at h); omega) | (intros; simp_all <;> omega)) | simp only [go_sem, Nat.reduceBEq, Nat.reduceAdd, Nat.reduceLeDiff, Int.reduceToNat, Int.reducePow] | simp (disch := omega) only [ww])
 (refine uJ rfl (fun hc => ?_) fun hc => ?_)
 ·have hi' : i < x.length := by omega
  have hgp : x[i]? = some x[i] := List.getElem?_eq_getElem hi'
  have hgo : out[i]? = some (out[i]'(by omega)) := List.getElem?_eq_getElem (by omega)
  have hg1 : out[i + 1]? = some (out[i + 1]'(by omega)) := List.getElem?_eq_getElem (by omega)
  have ho32 := hinv.2.1 _ (List.getElem_mem (show i < out.length by omega))
  obtain ⟨hs, hm, h1, h2⟩ := Nm.b2G hinv hr hi' (hx _ (List.getElem_mem hi')) (by omega)
  have hx32 := hx _ (List.getElem_mem hi')
  generalize x[i] = xi at *
  generalize out[i]'(by omega) = o at *
  generalize out[i + 1]'(by omega) = o1 at *
  have hv := b5F xi r hm (by omega)
  generalize xi * 2 ^ r = n at *
  have hol2 := b7G o n ho32
  have hgs : (out.set i (o ||| n % 4294967296))[i + 1]? = some o1 := by rw [List.getElem?_set_ne (by omega)]; exact hg1
  have hi1 : ((i : Int) + 1).toNat = i + 1 := by omega
  (repeat first | refine uA ?_ | (apply S.exit; exact rfl) | (refine uK ?_ ?_; focus first | omega | trivial | exact id | (intro h; rw [h]; rfl) | (intro h h2; rw [h, h2]; rfl) | (intro h; (try simp at h); omega) | (intros; simp_all <;> omega)) | simp only [go_sem, Nat.reduceBEq, Nat.reduceAdd, Nat.reduceLeDiff, Int.reduceToNat, Int.reducePow, o9, y9, hgp, hgo, hgs, hi1, Option.map_some, wd, hv, a0S, Y1, hol2, F8, List.length_set] | simp (disch := omega) only [ww, o9, y9, hgp, hgo, hgs, hi1, Option.map_some, wd, hv, a0S, Y1, hol2, F8, List.length_set])
  refine S.next (x := (i, out)) (i + 1, _) ⟨hi', hs⟩ (by simp only; omega) (by (repeat first | refine uA ?_ | (refine ⟨?_, ?_⟩; focus first | rfl | trivial | (simp [slot]; done)) | rfl | trivial | simp))
 ·have hi' : i = x.length := by omega
  subst hi'
  have he := (Nm.b4Z hinv).1
  have hd : out = Nm.dig 4294967296 (x.length + 1) (Nm.wv 4294967296 x * 2 ^ r) := Nm.R6 (by decide) hinv.2.1 hol he
  rw [<- hd]
  (repeat first | refine uA ?_ | (apply S.exit; exact rfl) | (refine uK ?_ ?_; focus first | omega | trivial | exact id | (intro h; rw [h]; rfl) | (intro h h2; rw [h, h2]; rfl) | (intro h; (try simp at h); omega) | (intros; simp_all <;> omega)) | simp only [go_sem, Nat.reduceBEq, Nat.reduceAdd, Nat.reduceLeDiff, Int.reduceToNat, Int.reducePow] | simp (disch := omega) only [ww])
  exact S.done (d9.new rfl rfl rfl)
def put (us : List Nat) (k : Nat) (out : List Nat) : List Nat := us.take k ++ out ++ us.drop (k + out.length)
theorem X3 {us out : List Nat} {k : Nat} (h : k + out.length <= us.length) : (put us k out).length = us.length := by
 simp only [put, List.length_append, List.length_take, List.length_drop]; omega
theorem O3 {us out : List Nat} {k i : Nat} (h : k + out.length <= us.length) (hi : i < out.length) : (put us k out)[k + i]? = out[i]? := by
 have ht : (us.take k).length = k := by rw [List.length_take]; omega
 rw [put, List.append_assoc, List.getElem?_append_right (by omega), ht, Nat.add_sub_cancel_left, List.getElem?_append_left hi]
theorem X6 {us out : List Nat} {k i v : Nat} (h : k + out.length <= us.length) (hi : i < out.length) : (put us k out).set (k + i) v = put us k (out.set i v) := by
 have ht : (us.take k).length = k := by rw [List.length_take]; omega
 rw [put, put, List.append_assoc, List.set_append_right _ _ (by omega), ht, Nat.add_sub_cancel_left, List.set_append_left _ _ hi, List.length_set, List.append_assoc]
theorem a3t {us : List Nat} {k n : Nat} (h : k + n <= us.length) : put us k ((us.drop k).take n) = us := by
 rw [put, List.length_take, List.length_drop, show min n (us.length - k) = n by omega, List.append_assoc, <- List.drop_drop]
 rw [List.take_append_drop, List.take_append_drop]
theorem b5j (o lo b : Nat) (ho : o < 4294967296) (hl : lo < 4294967296) (hb : b <= 1) : ∃ t c' : Nat, IntKind.u32.wrap (IntKind.u64.wrap (IntKind.u64.wrap ((o : Int) - (lo : Int)) - (b : Int))) = (t : Int) /\ Int.fdiv (IntKind.u64.wrap (IntKind.u64.wrap ((o : Int) - (lo : Int)) - (b : Int))) 9223372036854775808 = (c' : Int) /\ t < 4294967296 /\ c' <= 1 /\ t + lo + b = o + 4294967296 * c' := by
 obtain ⟨t, c', e1, e2, h1, h2, h3⟩ := a8z o lo b ho hl hb
 have g1 : ∀ n : Int, IntKind.u64.wrap n = n % 18446744073709551616 := fun n => by simp [IntKind.wrap, IntKind.signed, IntKind.bits]
 have e : IntKind.u64.wrap (IntKind.u64.wrap ((o : Int) - (lo : Int)) - (b : Int)) = IntKind.u64.wrap (IntKind.u64.wrap ((o : Int) - (b : Int)) - (lo : Int)) := by
  rw [g1, g1, g1, g1]; omega
 rw [e]
 exact ⟨t, c', e1, e2, h1, h2, by omega⟩
theorem c1S {E : Ctx} (hP : E.P = Tryz.prog) (us qs v : List Nat) (k d : Nat) (hl : us.length <= 274877906944) (hk : k + v.length + 1 <= us.length) (hu : Nm.D9 us) (hv : Nm.D9 v) (hd : d < 4294967296)
    {W : Nat} (hW : W = Nm.wv 4294967296 ((us.drop k).take (v.length + 1))) :
    p8 E [.row 240 1 (ws us), .row 240 1 (ws qs)] 246 [.wv 0 1 k (v.length + 1), .sl 1 (ws v), .v (.int .u64 (d : Int))] (.v (.bool (decide (W < d * Nm.wv 4294967296 v))))
      [.row 240 1 (ws (put us k (Nm.dig 4294967296 (v.length + 1) ((W + 4294967296 ^ (v.length + 1) * (if W < d * Nm.wv 4294967296 v then 1 else 0)) - d * Nm.wv 4294967296 v)))), .row 240 1 (ws qs)] [] := by
  obtain ⟨P, eff', N, w0, own0, av0, nu0, pk0⟩ := E
  simp only at hP
  subst hP
  refine p8.of (eff := eff) a9c a8S (by exact Nat.le_of_ble_eq_true rfl) fun w own av ν hν => ?_
  simp only [a3T, l5, TT, II, OA, OB, OC, MM, LL, VV, FF, MG, LG, VG, FG]
  have hν0 : ν.length <= 2 := by rw [hν]; exact Nat.le_refl _
  have hul : ((us.drop k).take (v.length + 1)).length = v.length + 1 := by rw [List.length_take, List.length_drop]; omega
  have hua : Nm.D9 ((us.drop k).take (v.length + 1)) := (hu.drop k).take _
  have hps : put us k ((us.drop k).take (v.length + 1)) = us := a3t (by omega)
  generalize (us.drop k).take (v.length + 1) = u at *
  (repeat first | refine uA ?_ | (apply S.exit; exact rfl) | (refine uK ?_ ?_; focus first | omega | trivial | exact id | (intro h; rw [h]; rfl) | (intro h h2; rw [h, h2]; rfl) | (intro h; (try simp at h); omega) | (intros; simp_all <;> omega)) | simp only [go_sem, Nat.reduceBEq, Nat.reduceAdd, Nat.reduceLeDiff, Int.reduceToNat, Int.reducePow, o9] | simp (disch := omega) only [ww, o9])
  refine S.loop (X := Nat × List Nat × Nat × Nat) (fun x => ⟨[(0, .wv 0 1 k (v.length + 1)), (1, .sl 1 (ws v)), (2, .v (.int .u64 (d : Int))), (7, .v (.int .u64 (x.2.2.1 : Int))), (8, .v (.int .u64 (x.2.2.2 : Int))), (13, .sl 1 (ws v)), (14, ints v.length), (15, ints x.1)], [.row 240 1 (ws (put us k x.2.1)), .row 240 1 (ws qs)]⟩) (fun x => x.1 <= v.length /\ Nm.a9v u v d x.1 x.2.1 x.2.2.1 x.2.2.2) (fun x => v.length - x.1) (0, u, 0, 0) ⟨Nat.zero_le _, Nm.b7e v d hua⟩ (by simp only [hps]; exact Ent.mk _ _ (by (repeat first | refine uA ?_ | (refine ⟨?_, ?_⟩; focus first | rfl | trivial | (simp [slot]; done)) | rfl | trivial | simp)) (by (repeat first | refine uA ?_ | (refine ⟨?_, ?_⟩; focus first | rfl | trivial | (simp [slot]; done)) | rfl | trivial | simp)) hν0) ?_
  rintro ⟨i, out, c, b⟩ ⟨hi, hinv⟩
  simp only [ints] at hi hinv ⊢
  have hol := hinv.1
  have hc1 := hinv.2.2.1
  have hb1 := hinv.2.2.2.1
  have hpl : (put us k out).length = us.length := X3 (by omega)
  (repeat first | refine uA ?_ | (apply S.exit; exact rfl) | (refine uK ?_ ?_; focus first | omega | trivial | exact id | (intro h; rw [h]; rfl) | (intro h h2; rw [h, h2]; rfl) | (intro h; (try simp at h); omega) | (intros; simp_all <;> omega)) | simp only [go_sem, Nat.reduceBEq, Nat.reduceAdd, Nat.reduceLeDiff, Int.reduceToNat, Int.reducePow] | simp (disch := omega) only [ww])
  (refine uJ rfl (fun hc => ?_) fun hc => ?_)
  · have hi' : i < v.length := by omega
    have hgv : v[i]? = some v[i] := List.getElem?_eq_getElem hi'
    have hgu : u[i]? = some (u[i]'(by omega)) := List.getElem?_eq_getElem (by omega)
    have hgo : (put us k out)[k + i]? = some (u[i]'(by omega)) := by rw [O3 (by omega) (by omega), Nm.Z4 hinv.2.2.2.2.1, hgu]
    have hu32 := hua _ (List.getElem_mem (show i < u.length by omega))
    have hv32 := hv _ (List.getElem_mem hi')
    have hiu : i < u.length := by omega
    have hk := fun t b' h1 h2 h3 => Nm.b7v (t := t) (b' := b') hinv hi' hiu hv32 hd h1 h2 h3
    generalize v[i] = vi at *
    generalize u[i]'(by omega) = ui at *
    obtain ⟨m, hm⟩ : ∃ m : Nat, m = d * vi := ⟨_, rfl⟩
    have hm' : (d : Int) * (vi : Int) = (m : Int) := by rw [hm]; simp
    have hmb : m <= 4294967295 * 4294967295 := by rw [hm]; exact Nat.mul_le_mul (by omega) (by omega)
    rw [<- hm] at hk
    obtain ⟨s, hs⟩ : ∃ s : Nat, s = c + m := ⟨_, rfl⟩
    have hs' : (c : Int) + (m : Int) = (s : Int) := by omega
    rw [<- hs] at hk
    obtain ⟨t, b', e1, e2, h1, h2, h3⟩ := b5j ui (s % 4294967296) b hu32 (Nat.mod_lt _ (by decide)) hb1
    have hk := (hk t b' h1 h2 h3).1
    have hsl := X6 (us := us) (out := out) (k := k) (i := i) (v := t) (by omega) (by omega)
    have hki : ((k : Int) + (i : Int)).toNat = k + i := by omega
    (repeat first | refine uA ?_ | (apply S.exit; exact rfl) | (refine uK ?_ ?_; focus first | omega | trivial | exact id | (intro h; rw [h]; rfl) | (intro h h2; rw [h, h2]; rfl) | (intro h; (try simp at h); omega) | (intros; simp_all <;> omega)) | simp only [go_sem, Nat.reduceBEq, Nat.reduceAdd, Nat.reduceLeDiff, Int.reduceToNat, Int.reducePow, o9, y9, hgv, hgo, Option.map_some, wd, hm', hs', a0S, Y1, e1, e2, F8, hsl, hki] | simp (disch := omega) only [ww, o9, y9, hgv, hgo, Option.map_some, wd, hm', hs', a0S, Y1, e1, e2, F8, hsl, hki])
    refine S.next (x := (i, out, c, b)) (i + 1, _, _, _) ⟨hi', hk⟩ (by simp only; omega) (Ent.mk _ _ (by (repeat first | refine uA ?_ | (refine ⟨?_, ?_⟩; focus first | rfl | trivial | (simp [slot]; done)) | rfl | trivial | simp)) (by (repeat first | refine uA ?_ | (refine ⟨?_, ?_⟩; focus first | rfl | trivial | (simp [slot]; done)) | rfl | trivial | simp)) hν0)
  · have hi' : i = v.length := by omega
    subst hi'
    have hgu : u[v.length]? = some (u[v.length]'(by omega)) := List.getElem?_eq_getElem (by omega)
    have hgo : (put us k out)[k + v.length]? = some (u[v.length]'(by omega)) := by rw [O3 (by omega) (by omega), Nm.Z4 hinv.2.2.2.2.1, hgu]
    have hu32 := hua _ (List.getElem_mem (show v.length < u.length by omega))
    obtain ⟨t, f, e1, e2, h1, h2, h3⟩ := b5j _ c b hu32 hc1 hb1
    obtain ⟨hk1, hk2⟩ := Nm.b7U (t := t) (f := f) hinv hul h1 h3
    have hsl := X6 (us := us) (out := out) (k := k) (i := v.length) (v := t) (by omega) (by omega)
    have hlt := Nm.I7 4294967296 hk2
    have hlt2 := Nm.I7 4294967296 hua
    rw [List.length_set, hol, hul] at hlt
    rw [hul, <- hW] at hlt2
    rw [hul, <- hW] at hk1
    have hf : f = if W < d * Nm.wv 4294967296 v then 1 else 0 := by
      have : f = 0 \/ f = 1 := by omega
      rcases this with rfl | rfl
      · rw [if_neg (by omega)]
      · rw [if_pos (by omega)]
    have hdg : out.set v.length t = Nm.dig 4294967296 (v.length + 1) (W + 4294967296 ^ (v.length + 1) * f - d * Nm.wv 4294967296 v) := Nm.R6 (by decide) hk2 (by rw [List.length_set]; omega) (by omega)
    rw [<- hf, <- hdg]
    have hfb : decide (W < d * Nm.wv 4294967296 v) = decide ((0 : Int) < (f : Int)) := by
      rw [hf]; by_cases h : W < d * Nm.wv 4294967296 v <;> simp [h]
    rw [hfb]
    have hki : ((k : Int) + (v.length : Int)).toNat = k + v.length := by omega
    (repeat first | refine uA ?_ | (apply S.exit; exact rfl) | (refine uK ?_ ?_; focus first | omega | trivial | exact id | (intro h; rw [h]; rfl) | (intro h h2; rw [h, h2]; rfl) | (intro h; (try simp at h); omega) | (intros; simp_all <;> omega)) | simp only [go_sem, Nat.reduceBEq, Nat.reduceAdd, Nat.reduceLeDiff, Int.reduceToNat, Int.reducePow, o9, y9, hgo, Option.map_some, wd, e1, e2, F8, hsl, hki] | simp (disch := omega) only [ww, o9, y9, hgo, Option.map_some, wd, e1, e2, F8, hsl, hki])
    exact S.done (d9.own rfl)
end Go.Proofs.YtogfpjohjphngaaGreatDoor
namespace Go.Proofs.YtogfpjohjphngaaGreatDoor.Eng
open Go Go.RowKit
def Met (E : Ctx) {Y : Type} (stY : Y -> St) (preY : Y -> Prop) : Act -> World -> Prop := fun a w => ∃ y ν', preY y /\ Good E ν' (stY y) a w
theorem S.join {E : Ctx} {Q : Exit -> Act -> World -> Prop} {st : St} {c : IC} {k : List It} {Y : Type} (stY : Y -> St) (preY : Y -> Prop)
  (h : S E Q st (.code c :: .inv (Met E stY preY) :: k)) (hk : ∀ y, preY y -> S E Q (stY y) k) : S E Q st (.code c :: k) := by
 intro wf ν a w hG code hc
 refine wp_mono (h wf ν a w hG code hc) fun e a' w' hq => ?_
 cases e with
 | normal =>
  simp only [wpS] at hq
  obtain ⟨y, ν', hp, hG'⟩ := hq
  exact hk y hp wf ν' a' w' hG'
 | exit i => simpa only [exS] using hq
 | _ => exact hq
theorem S.b6E {E : Ctx} {Q : Exit -> Act -> World -> Prop} {st : St} {c : IC} {id : Nat} {k : List It} {Y : Type} (stY : Y -> St) (preY : Y -> Prop)
  (h : S E Q st (.code c :: .blk id :: .inv (Met E stY preY) :: k)) (hk : ∀ y, preY y -> S E Q (stY y) k) : S E Q st (.code c :: .blk id :: k) := by
 intro wf ν a w hG code hc
 refine wp_mono (h wf ν a w hG code hc) fun e a' w' hq => ?_
 cases e with
 | normal =>
  simp only [wpS] at hq ⊢
  obtain ⟨y, ν', hp, hG'⟩ := hq
  exact hk y hp wf ν' a' w' hG'
 | exit i =>
  simp only [exS] at hq ⊢
  split
  ·rename_i e
   rw [if_pos e] at hq
   simp only [wpS] at hq
   obtain ⟨y, ν', hp, hG'⟩ := hq
   exact hk y hp wf ν' a' w' hG'
  ·rename_i e
   rw [if_neg e] at hq
   exact hq
 | _ => exact hq
theorem S.met {E : Ctx} {Q : Exit -> Act -> World -> Prop} {st : St} {k : List It} {Y : Type} {stY : Y -> St} {preY : Y -> Prop} (y : Y) (hp : preY y) (h : Ent E st (stY y)) : S E Q st (.inv (Met E stY preY) :: k) := by
 intro wf ν a w hG
 obtain ⟨ν', hG'⟩ := h wf ν a w hG
 exact ⟨y, ν', hp, hG'⟩
end Go.Proofs.YtogfpjohjphngaaGreatDoor.Eng
namespace Go.Proofs.YtogfpjohjphngaaGreatDoor
open Go Go.RowKit Eng
set_option maxRecDepth 10000
set_option maxHeartbeats 1000000
theorem c0U {us a b : List Nat} {k : Nat} (hl : a.length = b.length) (h : k + a.length <= us.length) : put (put us k a) k b = put us k b := by
 have ht : (us.take k).length = k := by rw [List.length_take]; omega
 rw [put, put, put, <- hl]
 congr 1
 ·congr 1
  rw [List.append_assoc, List.take_append_of_le_length (by omega), List.take_of_length_le (by omega)]
 ·exact List.drop_left' (by rw [List.length_append, ht])
theorem a1x {us a : List Nat} {k n : Nat} (hn : n = a.length) (h : k + a.length <= us.length) : ((put us k a).drop k).take n = a := by
 have ht : (us.take k).length = k := by rw [List.length_take]; omega
 subst hn
 rw [put, List.append_assoc, List.drop_append, ht, Nat.sub_self, List.drop_of_length_le (by omega), List.nil_append, List.drop_zero, List.take_append_of_le_length (Nat.le_refl _), List.take_length]
theorem c0O {us a : List Nat} {k : Nat} (hu : Nm.D9 us) (ha : Nm.D9 a) : Nm.D9 (put us k a) := ((hu.take k).app ha).app (hu.drop _)
theorem c2k {E : Ctx} (hP : E.P = Tryz.prog) (us qs v : List Nat) (k : Nat) (hl : us.length <= 274877906944) (hk : k + v.length + 1 <= us.length) (hu : Nm.D9 us) (hv : Nm.D9 v)
    {W : Nat} (hW : W = Nm.wv 4294967296 ((us.drop k).take (v.length + 1))) (hlt : 4294967296 ^ (v.length + 1) <= W + Nm.wv 4294967296 v) :
    p8 E [.row 240 1 (ws us), .row 240 1 (ws qs)] 247 [.wv 0 1 k (v.length + 1), .sl 1 (ws v)] (.tup [])
      [.row 240 1 (ws (put us k (Nm.dig 4294967296 (v.length + 1) (W + Nm.wv 4294967296 v - 4294967296 ^ (v.length + 1))))), .row 240 1 (ws qs)] [] := by
  obtain ⟨P, eff', N, w0, own0, av0, nu0, pk0⟩ := E
  simp only at hP
  subst hP
  refine p8.of (eff := eff) b0p b0q (by exact Nat.le_of_ble_eq_true rfl) fun w own av ν hν => ?_
  simp only [a4I, l5, TT, II, OA, OB, OC, MM, LL, VV, FF, MG, LG, VG, FG]
  have hν0 : ν.length <= 2 := by rw [hν]; exact Nat.le_refl _
  have hul : ((us.drop k).take (v.length + 1)).length = v.length + 1 := by rw [List.length_take, List.length_drop]; omega
  have hua : Nm.D9 ((us.drop k).take (v.length + 1)) := (hu.drop k).take _
  have hps : put us k ((us.drop k).take (v.length + 1)) = us := a3t (by omega)
  generalize (us.drop k).take (v.length + 1) = u at *
  (repeat first | refine uA ?_ | (apply S.exit; exact rfl) | (refine uK ?_ ?_; focus first | omega | trivial | exact id | (intros; simp_all <;> omega)) | simp (disch := omega) only [go_sem, Nat.reduceBEq, Nat.reduceAdd, Nat.reduceLeDiff, Int.reduceToNat, Int.reducePow, ww, o9])
  refine S.loop (X := Nat × List Nat × Nat) (fun x => ⟨[(0, .wv 0 1 k (v.length + 1)), (1, .sl 1 (ws v)), (4, .v (.int .u64 (x.2.2 : Int))), (7, .sl 1 (ws v)), (8, ints v.length), (9, ints x.1)], [.row 240 1 (ws (put us k x.2.1)), .row 240 1 (ws qs)]⟩) (fun x => x.1 <= v.length /\ Nm.a9Y u v x.1 x.2.1 x.2.2) (fun x => v.length - x.1) (0, u, 0) ⟨Nat.zero_le _, Nm.b6z v hua⟩ (by simp only [hps]; exact Ent.mk _ _ (by (repeat first | refine uA ?_ | (refine ⟨?_, ?_⟩; focus first | rfl | trivial | (simp [slot]; done)) | rfl | trivial | simp)) (by (repeat first | refine uA ?_ | (refine ⟨?_, ?_⟩; focus first | rfl | trivial | (simp [slot]; done)) | rfl | trivial | simp)) hν0) ?_
  rintro ⟨i, out, c⟩ ⟨hi, hinv⟩
  simp only [ints] at hi hinv ⊢
  have hol := hinv.1
  have hc1 := hinv.2.2.1
  have hpl : (put us k out).length = us.length := X3 (by omega)
  (repeat first | refine uA ?_ | (apply S.exit; exact rfl) | (refine uK ?_ ?_; focus first | omega | trivial | exact id | (intros; simp_all <;> omega)) | simp (disch := omega) only [go_sem, Nat.reduceBEq, Nat.reduceAdd, Nat.reduceLeDiff, Int.reduceToNat, Int.reducePow, ww])
  (refine uJ rfl (fun hc => ?_) fun hc => ?_)
  · have hi' : i < v.length := by omega
    have hiu : i < u.length := by omega
    have hgv : v[i]? = some v[i] := List.getElem?_eq_getElem hi'
    have hgu : u[i]? = some (u[i]'(by omega)) := List.getElem?_eq_getElem (by omega)
    have hgo : (put us k out)[k + i]? = some (u[i]'(by omega)) := by rw [O3 (by omega) (by omega), Nm.Z4 hinv.2.2.2.1, hgu]
    have hu32 := hua _ (List.getElem_mem (show i < u.length by omega))
    have hv32 := hv _ (List.getElem_mem hi')
    have hk := Nm.b6h hinv hi' hiu hv32 hu32 rfl
    generalize v[i] = vi at *
    generalize u[i]'(by omega) = ui at *
    obtain ⟨s, hs⟩ : ∃ s : Nat, s = c + ui + vi := ⟨_, rfl⟩
    have hs' : (c : Int) + ((ui : Int) + (vi : Int)) = (s : Int) := by omega
    rw [<- hs] at hk
    have hsl := X6 (us := us) (out := out) (k := k) (i := i) (v := s % 4294967296) (by omega) (by omega)
    have hki : ((k : Int) + (i : Int)).toNat = k + i := by omega
    (repeat first | refine uA ?_ | (apply S.exit; exact rfl) | (refine uK ?_ ?_; focus first | omega | trivial | exact id | (intros; simp_all <;> omega)) | simp (disch := omega) only [go_sem, Nat.reduceBEq, Nat.reduceAdd, Nat.reduceLeDiff, Int.reduceToNat, Int.reducePow, ww, o9, y9, hgv, hgo, Option.map_some, wd, hs', a0S, Y1, F8, hsl, hki])
    refine S.next (x := (i, out, c)) (i + 1, _, _) ⟨hi', hk⟩ (by simp only; omega) (Ent.mk _ _ (by (repeat first | refine uA ?_ | (refine ⟨?_, ?_⟩; focus first | rfl | trivial | (simp [slot]; done)) | rfl | trivial | simp)) (by (repeat first | refine uA ?_ | (refine ⟨?_, ?_⟩; focus first | rfl | trivial | (simp [slot]; done)) | rfl | trivial | simp)) hν0)
  · have hi' : i = v.length := by omega
    subst hi'
    have hgu : u[v.length]? = some (u[v.length]'(by omega)) := List.getElem?_eq_getElem (by omega)
    have hgo : (put us k out)[k + v.length]? = some (u[v.length]'(by omega)) := by rw [O3 (by omega) (by omega), Nm.Z4 hinv.2.2.2.1, hgu]
    have hu32 := hua _ (List.getElem_mem (show v.length < u.length by omega))
    have hlt2 := Nm.I7 4294967296 hua
    have hlv := Nm.I7 4294967296 hv
    rw [hul, <- hW] at hlt2
    have hpw : 4294967296 ^ v.length <= 4294967296 ^ (v.length + 1) := Nat.pow_le_pow_right (by decide) (by omega)
    obtain ⟨hk1, hk2⟩ := Nm.b7M hinv hul rfl (z := W + Nm.wv 4294967296 v - 4294967296 ^ (v.length + 1)) (by rw [hul, <- hW]; omega) (by rw [hul]; omega)
    have hdg := Nm.R6 (by decide) hk2 (show _ = v.length + 1 by rw [List.length_set]; omega) hk1
    rw [<- hdg]
    have hsl := X6 (us := us) (out := out) (k := k) (i := v.length) (v := (u[v.length] + c) % 4294967296) (by omega) (by omega)
    have hki : ((k : Int) + (v.length : Int)).toNat = k + v.length := by omega
    have hw1 : IntKind.u32.wrap ((u[v.length] : Int) + (c : Int)) = (((u[v.length] + c) % 4294967296 : Nat) : Int) := a0S (u[v.length] + c)
    (repeat first | refine uA ?_ | (apply S.exit; exact rfl) | (refine uK ?_ ?_; focus first | omega | trivial | exact id | (intros; simp_all <;> omega)) | simp (disch := omega) only [go_sem, Nat.reduceBEq, Nat.reduceAdd, Nat.reduceLeDiff, Int.reduceToNat, Int.reducePow, ww, o9, y9, hgo, Option.map_some, wd, hw1, F8, hsl, hki])
    exact S.end_ (d9.own rfl)
set_option maxHeartbeats 2000000
theorem a8Z : ∀ (f x : Nat), x < 2 ^ f -> f <= 64 -> x ≠ 0 -> 0 < Lib.bitLen x /\ 2 ^ (Lib.bitLen x - 1) <= x /\ x < 2 ^ Lib.bitLen x
 | 0, x, h, _, h0 => by simp at h; omega
 | f + 1, x, h, hf, h0 => by
  have h64 : x < 2 ^ 64 := Nat.lt_of_lt_of_le h (Nat.pow_le_pow_right (by decide) hf)
  rw [Lib.bitLen_half x h0 h64]
  by_cases h1 : x / 2 = 0
  ·rw [h1, show Lib.bitLen 0 = 0 from rfl]
   refine ⟨by omega, ?_, ?_⟩
   ·simp; omega
   ·simp; omega
  ·obtain ⟨g0, g1, g2⟩ := a8Z f (x / 2) (by rw [Nat.pow_succ] at h; omega) (by omega) h1
   refine ⟨by omega, ?_, ?_⟩
   ·rw [show 1 + Lib.bitLen (x / 2) - 1 = Lib.bitLen (x / 2) - 1 + 1 by omega, Nat.pow_succ]; omega
   ·rw [Nat.add_comm, Nat.pow_succ]; omega
def lz (x : Nat) : Nat := 32 - Lib.bitLen x
theorem b5v {x : Nat} (h0 : x ≠ 0) (h : x < 4294967296) : lz x < 32 /\ Lib.bitLen x + lz x = 32 /\ (x + 1) * 2 ^ lz x <= 4294967296 := by
 obtain ⟨g0, g1, g2⟩ := a8Z 32 x h (by decide) h0
 have hb : Lib.bitLen x <= 32 := by
  rcases Nat.lt_or_ge 32 (Lib.bitLen x) with h1 | h1
  ·have : 2 ^ 32 <= 2 ^ (Lib.bitLen x - 1) := Nat.pow_le_pow_right (by decide) (by omega)
   omega
  ·exact h1
 refine ⟨by unfold lz; omega, by unfold lz; omega, ?_⟩
 have := Nat.mul_le_mul_right (2 ^ lz x) (Nat.succ_le_of_lt g2)
 rw [<- Nat.pow_add, show Lib.bitLen x + lz x = 32 by unfold lz; omega] at this
 exact this
theorem c3p (x : Nat) (h0 : x ≠ 0) (h : x < 4294967296) : r9 Tryz.prog 244 [.v (.int .u32 (x : Int))] (ints (lz x)) := by
 intro O w vs hO hA
 simp only [FzL, Fz] at hA
 obtain ⟨y, ys, rfl, rfl, rfl⟩ := hA
 refine (Tryz.bits_LeadingZeros32 (x : Int) w (by omega) (by omega)).mono ?_
 rintro e w' ⟨rfl, rfl⟩
 refine ⟨_, rfl, Below.refl _ _, ?_⟩
 have := (b5v h0 h).2.1
 simp only [ints, Fz, Int.toNat_natCast]
 rw [show (32 : Int) - (Lib.bitLen x : Int) = ((lz x : Nat) : Int) by omega]
namespace Nm
theorem b2s {B : Nat} : ∀ {m L n : Nat}, m <= L -> (dig B L n).take m = dig B m n
 | 0, _, _, _ => by simp [dig]
 | m + 1, 0, _, h => by omega
 | m + 1, L + 1, n, h => by simp only [dig, List.take_succ_cons]; rw [b2s (by omega)]
theorem b5t {B : Nat} {l : List Nat} (h : ∀ w ∈ l, w < B) {k : Nat} (hk : k <= l.length) : wv B (l.drop k) = wv B l / B ^ k := by
 have e := a2j B l k hk
 have h1 : wv B (l.take k) < B ^ k := by
  have := I7 B (l := l.take k) (fun w hw => h w (List.mem_of_mem_take hw))
  rwa [List.length_take, Nat.min_eq_left hk] at this
 rw [e, Nat.add_mul_div_left _ _ (by omega), Nat.div_eq_of_lt h1, Nat.zero_add]
theorem Est.top {W V v1 v2 top u2 p : Nat} (h : Est W V v1 v2 top u2 p) : top < v1 * 4294967296 + 4294967296 := by
 have h1 := h.wge
 have h2 := h.lt
 have h3 := h.hW
 have h4 := h.hv2
 have hp : 0 < p := by
  rcases Nat.eq_zero_or_pos p with h0 | h0
  ·subst h0; omega
  ·exact h0
 have h5 : (top * 4294967296 + u2) * p < (4294967296 * (v1 * 4294967296 + v2 + 1)) * p := by
  rw [Nat.mul_assoc 4294967296]; omega
 have := Nat.lt_of_mul_lt_mul_right h5
 omega
theorem b4W {x y : List Nat} {r : Nat} (hx : D9 x) (hy : D9 y) (hl : y.length <= x.length) (hyt : 4294967296 ^ (y.length - 1) <= wv 4294967296 y) (hy0 : 0 < y.length) (hr : wv 4294967296 y * 2 ^ r < 4294967296 ^ y.length) :
  a5v (wv 4294967296 x * 2 ^ r) (dig 4294967296 y.length (wv 4294967296 y * 2 ^ r)) (x.length + 1) (x.length + 1 - y.length) (dig 4294967296 (x.length + 1) (wv 4294967296 x * 2 ^ r)) (List.replicate (x.length + 1 - y.length) 0) := by
 have hp : 0 < 2 ^ r := Nat.pow_pos (by decide)
 have hxl := I7 4294967296 hx
 have hr32 : 2 ^ r <= 4294967296 := by
  have h1 : 4294967296 ^ (y.length - 1) * 2 ^ r <= wv 4294967296 y * 2 ^ r := Nat.mul_le_mul_right _ hyt
  have h2 : 4294967296 ^ y.length = 4294967296 ^ (y.length - 1) * 4294967296 := by rw [<- Nat.pow_succ, show (y.length - 1).succ = y.length by omega]
  have h3 : 4294967296 ^ (y.length - 1) * 2 ^ r < 4294967296 ^ (y.length - 1) * 4294967296 := by omega
  exact Nat.le_of_lt (Nat.lt_of_mul_lt_mul_left h3)
 have hU : wv 4294967296 x * 2 ^ r < 4294967296 ^ (x.length + 1) := by
  rw [Nat.pow_succ]
  exact Nat.lt_of_lt_of_le (Nat.mul_lt_mul_of_pos_right hxl hp) (Nat.mul_le_mul_left _ hr32)
 have hwu : wv 4294967296 (dig 4294967296 (x.length + 1) (wv 4294967296 x * 2 ^ r)) = wv 4294967296 x * 2 ^ r := Q7 hU
 have hwv : wv 4294967296 (dig 4294967296 y.length (wv 4294967296 y * 2 ^ r)) = wv 4294967296 y * 2 ^ r := Q7 hr
 refine ⟨G7 _ _ _, a0p (by decide) _ _, by simp [G7], fun w hw => by rw [List.eq_of_mem_replicate hw]; decide, ?_, ?_⟩
 ·rw [hwu, List.drop_of_length_le (by simp), show wv 4294967296 [] = 0 from rfl, Nat.mul_zero, Nat.mul_zero, Nat.add_zero]
 ·rw [b5t (a0p (by decide) _ _) (by rw [G7]; omega), hwu, hwv]
  have e : 4294967296 ^ x.length = 4294967296 ^ (x.length + 1 - y.length) * 4294967296 ^ (y.length - 1) := by
   rw [<- Nat.pow_add]; congr 1; omega
  refine Nat.lt_of_lt_of_le ?_ (Nat.mul_le_mul_right (2 ^ r) hyt)
  rw [Nat.div_lt_iff_lt_mul (Nat.pow_pos (by decide))]
  have := Nat.mul_lt_mul_of_pos_right hxl hp
  rw [e] at this
  exact Nat.lt_of_lt_of_eq this (by rw [Nat.mul_assoc, Nat.mul_comm])
end Nm
theorem b3h (a b : Nat) (ha : a < 4294967296) (hb : b < 4294967296) : bits .or .u64 ((a : Int) * 4294967296) (b : Int) = ((a * 4294967296 + b : Nat) : Int) := by
 have h1 : (a : Int) * 4294967296 = ((a * 4294967296 : Nat) : Int) := by omega
 rw [h1, a9i _ _ (by omega) (by omega)]
 have := Nm.a2l (a := b) (b := a) (r := 32) hb
 rw [Nat.or_comm, show (4294967296 : Nat) = 2 ^ 32 from rfl, this, Nat.add_comm]
set_option maxHeartbeats 4000000
theorem c2F (x y : List Nat) (hxl : x.length <= 274877906900) (hx : Nm.D9 x) (hy : Nm.D9 y) (hl : y.length <= x.length) (hy2 : 2 <= y.length) (hyt : 4294967296 ^ (y.length - 1) <= Nm.wv 4294967296 y) :
    r9 Tryz.prog 227 [.sl 1 (ws x), .sl 1 (ws y)] (.tup [.sl 1 (ws (Nm.dig 4294967296 (x.length + 1 - y.length) (Nm.wv 4294967296 x / Nm.wv 4294967296 y))), .sl 1 (ws (Nm.dig 4294967296 y.length (Nm.wv 4294967296 x % Nm.wv 4294967296 y)))]) := by
  refine r9.of b5a b4Y (by exact Nat.le_of_ble_eq_true rfl) fun w O => ?_
  simp only [a7W, l5, TT, II, OA, OB, OC, MM, LL, VV, FF, MG, LG, VG, FG]
  have hgy : y[y.length - 1]? = some (y[y.length - 1]'(by omega)) := List.getElem?_eq_getElem (by omega)
  have hyw := Nm.y5 4294967296 (l := y) (i := y.length - 1) (by omega)
  rw [show y.length - 1 + 1 = y.length by omega, List.take_length] at hyw
  have hyk := Nm.I7 4294967296 (l := y.take (y.length - 1)) (fun w hw => hy w (List.mem_of_mem_take hw))
  rw [List.length_take, Nat.min_eq_left (by omega)] at hyk
  have ht32 := hy _ (List.getElem_mem (show y.length - 1 < y.length by omega))
  generalize y[y.length - 1]'(by omega) = t at *
  have ht0 : t ≠ 0 := fun h => by subst h; omega
  obtain ⟨hr32, _, htr⟩ := b5v ht0 ht32
  have hflz := c3p t ht0 ht32
  generalize lz t = r at *
  have hr : Nm.wv 4294967296 y * 2 ^ r < 4294967296 ^ y.length := by
    have h1 : Nm.wv 4294967296 y < (t + 1) * 4294967296 ^ (y.length - 1) := by
      rw [Nat.add_mul, Nat.one_mul, Nat.mul_comm]; omega
    have h2 := Nat.mul_lt_mul_of_pos_right h1 (show 0 < 2 ^ r from Nat.pow_pos (by decide))
    have h3 := Nat.mul_le_mul_right (4294967296 ^ (y.length - 1)) htr
    rw [<- Nat.pow_succ', show (y.length - 1).succ = y.length by omega] at h3
    refine Nat.lt_of_lt_of_le h2 ?_
    rw [Nat.mul_assoc, Nat.mul_comm (4294967296 ^ _), <- Nat.mul_assoc]
    exact h3
  have hi1 : ((y.length : Int) - 1).toNat = y.length - 1 := by omega
  have hti := Nm.b2s (B := 4294967296) (m := y.length) (L := y.length + 1) (n := Nm.wv 4294967296 y * 2 ^ r) (by omega)
  have hvl := Nm.G7 4294967296 y.length (Nm.wv 4294967296 y * 2 ^ r)
  have hva : Nm.D9 _ := Nm.a0p (B := 4294967296) (by decide) y.length (Nm.wv 4294967296 y * 2 ^ r)
  have hvw := Nm.Q7 hr
  have hst := Nm.b4W hx hy hl hyt (by omega) hr
  have hlx := b7Z x r (by omega) hx hr32
  have hly := (b7Z y r (by omega) hy hr32).spec
  have htk : List.take y.length (ws (Nm.dig 4294967296 (y.length + 1) (Nm.wv 4294967296 y * 2 ^ r))) = ws (Nm.dig 4294967296 y.length (Nm.wv 4294967296 y * 2 ^ r)) := by
    rw [<- hti]; simp [ws]
  have hul := Nm.G7 4294967296 (x.length + 1) (Nm.wv 4294967296 x * 2 ^ r)
  have hn1 : (((x.length + 1 : Nat) : Int) - (y.length : Int)).toNat = x.length + 1 - y.length := by omega
  (repeat first | refine uA ?_ | (apply S.exit; exact rfl) | (refine uK ?_ ?_; focus first | omega | trivial | exact id | (intro h; rw [h]; rfl) | (intro h h2; rw [h, h2]; rfl) | (intro h; (try simp at h); omega) | (intros; simp_all <;> omega)) | simp only [go_sem, Nat.reduceBEq, Nat.reduceAdd, Nat.reduceLeDiff, Int.reduceToNat, Int.reducePow, o9, y9, hgy, hi1, Option.map_some, wd, Nm.G7, htk, hn1, List.length_replicate] | simp (disch := omega) only [ww, o9, y9, hgy, hi1, Option.map_some, wd, Nm.G7, htk, hn1, List.length_replicate] | refine q9.t (FNew.t hlx rfl) ?_ | (refine uB hflz ?_ ?_; exact rfl) | (refine uB hly ?_ ?_; exact rfl))
  clear hflz hlx hly htk hti hgy
  have hyn : ∃ m, y.length = m + 2 := ⟨y.length - 2, by omega⟩
  obtain ⟨m, hm⟩ := hyn
  have hV : Nm.wv 4294967296 y * 2 ^ r / 2 ^ r = Nm.wv 4294967296 y := Nat.mul_div_cancel _ (Nat.pow_pos (by decide))
  generalize Nm.dig 4294967296 y.length (Nm.wv 4294967296 y * 2 ^ r) = v at *
  generalize hn : y.length = n at *
  refine S.loop (X := Nat × List Nat × List Nat) (fun s => ⟨[(10, ints ((s.1 : Int) - 1)), (4, .rv 1), (9, .sl 1 (ws v)), (8, .rv 0), (7, ints n), (6, ints r)], [.row 240 1 (ws s.2.1), .row 240 1 (ws s.2.2)]⟩) (fun s => s.1 <= x.length + 1 - n /\ Nm.a5v (Nm.wv 4294967296 x * 2 ^ r) v (x.length + 1) s.1 s.2.1 s.2.2) (fun s => s.1) (x.length + 1 - n, _, _) ⟨Nat.le_refl _, hst⟩ (by simp only [<- a2m]; exact Ent.mk _ _ (by repeat' (first | exact a0j.nil | exact Imp.refl rfl | exact Imp.eq (by simp [slot]; omega) rfl | refine a0j.cons ?_ ?_)) (by (repeat first | refine uA ?_ | (refine ⟨?_, ?_⟩; focus first | rfl | trivial | (simp [slot]; done)) | rfl | trivial | simp)) (Nat.zero_le _)) ?_
  clear hst
  rintro ⟨j, us, qs⟩ ⟨hj, hinv⟩
  simp only [ints] at hj hinv ⊢
  have hus := hinv.1
  have hua := hinv.2.1
  have hql := hinv.2.2.1
  have hqa := hinv.2.2.2.1
  (repeat first | refine uA ?_ | (apply S.exit; exact rfl) | (refine uK ?_ ?_; focus first | omega | trivial | exact id | (intro h; rw [h]; rfl) | (intro h h2; rw [h, h2]; rfl) | (intro h; (try simp at h); omega) | (intros; simp_all <;> omega)) | simp only [go_sem, Nat.reduceBEq, Nat.reduceAdd, Nat.reduceLeDiff, Int.reduceToNat, Int.reducePow] | simp (disch := omega) only [ww])
  (refine uJ rfl (fun hc => ?_) fun hc => ?_)
  · obtain ⟨k, rfl⟩ : ∃ k, j = k + 1 := ⟨j - 1, by omega⟩
    rw [show (((k + 1 : Nat) : Int) - 1) = (k : Int) by omega]
    obtain ⟨g1, g2, g3, g4⟩ := Nm.b1g hinv hva (by omega)
    have hwa : Nm.D9 ((us.drop k).take (v.length + 1)) := (hua.drop k).take _
    have hv1 : 0 < v[m + 1]'(by omega) := by
      have h1 := Nm.y5 4294967296 (l := v) (i := m + 1) (by omega)
      rw [List.take_of_length_le (by omega)] at h1
      have h2 := Nm.I7 4294967296 (l := v.take (m + 1)) (fun w hw => hva w (List.mem_of_mem_take hw))
      rw [List.length_take, Nat.min_eq_left (by omega)] at h2
      have h3 : Nm.wv 4294967296 y <= Nm.wv 4294967296 y * 2 ^ r := Nat.le_mul_of_pos_right _ (Nat.pow_pos (by decide))
      rw [show n - 1 = m + 1 by omega] at hyt
      rcases Nat.eq_zero_or_pos (v[m + 1]'(by omega)) with h0 | h0
      · rw [h0] at h1; omega
      · exact h0
    have hE := Nm.Est.of (m := m) (by omega) (by rw [g4]; omega) hva hwa hv1 (by rw [g1]; exact g2)
    simp only [List.getElem_take, List.getElem_drop, g1] at hE
    have ha2 : us[k + n]? = some (us[k + (m + 2)]'(by omega)) := (show us[k + n]? = us[k + (m + 2)]? by rw [hm]).trans (List.getElem?_eq_getElem (by omega))
    have ha1 : us[k + (m + 1)]? = some (us[k + (m + 1)]'(by omega)) := List.getElem?_eq_getElem (by omega)
    have ha0 : us[k + m]? = some (us[k + m]'(by omega)) := List.getElem?_eq_getElem (by omega)
    have hb1 : v[m + 1]? = some (v[m + 1]'(by omega)) := List.getElem?_eq_getElem (by omega)
    have hb0 : v[m]? = some (v[m]'(by omega)) := List.getElem?_eq_getElem (by omega)
    have hA2 := hua _ (List.getElem_mem (show k + (m + 2) < us.length by omega))
    have hA1 := hua _ (List.getElem_mem (show k + (m + 1) < us.length by omega))
    have hA0 := hua _ (List.getElem_mem (show k + m < us.length by omega))
    have hB1 := hva _ (List.getElem_mem (show m + 1 < v.length by omega))
    have hB0 := hva _ (List.getElem_mem (show m < v.length by omega))
    generalize us[k + (m + 2)]'(by omega) = a2 at *
    generalize us[k + (m + 1)]'(by omega) = a1 at *
    generalize us[k + m]'(by omega) = a0 at *
    generalize v[m + 1]'(by omega) = v1 at *
    generalize v[m]'(by omega) = v2 at *
    have hi2 : ((k : Int) + (n : Int)).toNat = k + n := by omega
    have hi3 : ((k : Int) + (n : Int) - 1).toNat = k + (m + 1) := by omega
    have hi4 : ((k : Int) + (n : Int) - 2).toNat = k + m := by omega
    have hi5 : ((n : Int) - 1).toNat = m + 1 := by omega
    have hi6 : ((n : Int) - 2).toNat = m := by omega
    have htop := b3h a2 a1 hA2 hA1
    have htb : a2 * 4294967296 + a1 < 18446744073709551616 := by omega
    have hs0 := hE.start
    have htp := hE.top
    have hd0 := Nat.div_add_mod (a2 * 4294967296 + a1) v1
    have hr0 := Nat.mod_lt (a2 * 4294967296 + a1) hv1
    obtain ⟨top, htd⟩ : ∃ top, top = a2 * 4294967296 + a1 := ⟨_, rfl⟩
    rw [<- htd] at hE htop htb hs0 htp hd0 hr0
    have hq : ∀ q : Nat, q = top / v1 -> Int.tdiv (top : Int) (v1 : Int) = (q : Int) := fun q h => by rw [h]; rfl
    have hqr : ∀ q : Nat, q = top % v1 -> Int.tmod (top : Int) (v1 : Int) = (q : Int) := fun q h => by rw [h]; rfl
    obtain ⟨d0, hd0e⟩ : ∃ d0, d0 = top / v1 := ⟨_, rfl⟩
    obtain ⟨e0, he0e⟩ : ∃ e0, e0 = top % v1 := ⟨_, rfl⟩
    have hq := hq d0 hd0e
    have hqr := hqr e0 he0e
    rw [<- hd0e, <- he0e] at hd0
    rw [<- hd0e] at hs0
    rw [<- he0e] at hr0
    have hd0b : d0 <= 18446744073709551615 := by
      have : d0 <= top := by rw [hd0e]; exact Nat.div_le_self _ _
      omega
    clear hd0e he0e
    (repeat first | refine uA ?_ | (apply S.exit; exact rfl) | (refine uK ?_ ?_; focus first | omega | trivial | exact id | (intro h; rw [h]; rfl) | (intro h h2; rw [h, h2]; rfl) | (intro h; (try simp at h); omega) | (intros; simp_all <;> omega)) | simp only [go_sem, Nat.reduceBEq, Nat.reduceAdd, Nat.reduceLeDiff, Int.reduceToNat, Int.reducePow, o9, y9, ha2, ha1, hb1, Option.map_some, wd, hi2, hi3, hi5, htop, hq, hqr] | simp (disch := omega) only [ww, o9, y9, ha2, ha1, hb1, Option.map_some, wd, hi2, hi3, hi5, htop, hq, hqr])
    refine S.b6E (Y := Nat) (fun d => ⟨[(10, ints k), (4, .rv 1), (9, .sl 1 (ws v)), (8, .rv 0), (7, ints n), (6, ints r), (12, .v (.int .u64 (d : Int)))], [.row 240 1 (ws us), .row 240 1 (ws qs)]⟩) (fun d => d < 4294967296 /\ ((d * Nm.wv 4294967296 v <= Nm.wv 4294967296 (us.drop k) /\ Nm.wv 4294967296 (us.drop k) / Nm.wv 4294967296 v = d) \/ (Nm.wv 4294967296 (us.drop k) < d * Nm.wv 4294967296 v /\ 0 < d /\ Nm.wv 4294967296 (us.drop k) / Nm.wv 4294967296 v = d - 1))) ?_ ?_
    · refine S.loop (X := Nat × Nat) (fun s => ⟨[(10, ints k), (4, .rv 1), (9, .sl 1 (ws v)), (8, .rv 0), (7, ints n), (6, ints r), (12, .v (.int .u64 (s.1 : Int))), (13, .v (.int .u64 (s.2 : Int)))], [.row 240 1 (ws us), .row 240 1 (ws qs)]⟩) (fun s => Nm.wv 4294967296 (us.drop k) / Nm.wv 4294967296 v <= s.1 /\ top = s.1 * v1 + s.2 /\ s.2 < 4294967296 /\ s.1 <= 18446744073709551615) (fun s => s.1) (d0, e0) ⟨hs0, by rw [<- hd0, Nat.mul_comm], by simp only; omega, hd0b⟩ (by (repeat first | refine uA ?_ | (refine ⟨?_, ?_⟩; focus first | rfl | trivial | (simp [slot]; done)) | rfl | trivial | simp)) ?_
      clear hs0 hd0 hr0 hd0b hq hqr
      rintro ⟨d, rest⟩ ⟨p1, p2, p3, p4⟩
      simp only [ints] at p1 p2 p3 p4 ⊢
      have hor := b3h rest a0 p3 hA0
      (repeat first | refine uA ?_ | (apply S.exit; exact rfl) | (refine uK ?_ ?_; focus first | omega | trivial | exact id | (intro h; rw [h]; rfl) | (intro h h2; rw [h, h2]; rfl) | (intro h; (try simp at h); omega) | (intros; simp_all <;> omega)) | simp only [go_sem, Nat.reduceBEq, Nat.reduceAdd, Nat.reduceLeDiff, Int.reduceToNat, Int.reducePow, o9, y9, hb0, ha0, Option.map_some, wd, hi4, hi6, Y1, hor] | simp (disch := omega) only [ww, o9, y9, hb0, ha0, Option.map_some, wd, hi4, hi6, Y1, hor])
      have hmul : d < 4294967296 -> IntKind.u64.wrap ((d : Int) * (v2 : Int)) = ((d * v2 : Nat) : Int) := fun h => by
        have h1 : d * v2 <= 4294967295 * 4294967295 := Nat.mul_le_mul (by omega) (by omega)
        rw [<- Int.natCast_mul, Eng.wrap_u64 (by omega)]
      (refine uJ rfl (fun hc => ?_) fun hc => ?_)
      · have hdec : Nm.wv 4294967296 (us.drop k) / Nm.wv 4294967296 v < d := by
          refine hE.dec p1 p2 ?_
          rcases Nat.lt_or_ge d 4294967296 with h | h
          · rw [hmul h] at hc
            omega
          · exact Or.inl h
        have hd1 : 1 <= d := Nat.lt_of_le_of_lt (Nat.zero_le _) hdec
        have hdm : (d : Int) - 1 = ((d - 1 : Nat) : Int) := by clear hdec p1; omega
        have hrm : (rest : Int) + (v1 : Int) = ((rest + v1 : Nat) : Int) := by omega
        have ht2 : top = (d - 1) * v1 + (rest + v1) := by
          rw [p2]
          conv => lhs; rw [show d = d - 1 + 1 by omega, Nat.add_mul, Nat.one_mul]
          omega
        (repeat first | refine uA ?_ | (apply S.exit; exact rfl) | (refine uK ?_ ?_; focus first | omega | trivial | exact id | (intro h; rw [h]; rfl) | (intro h h2; rw [h, h2]; rfl) | (intro h; (try simp at h); omega) | (intros; simp_all <;> omega)) | simp only [go_sem, Nat.reduceBEq, Nat.reduceAdd, Nat.reduceLeDiff, Int.reduceToNat, Int.reducePow, o9, y9, hb1, Option.map_some, wd, hi5, Y1, hdm, hrm] | simp (disch := omega) only [ww, o9, y9, hb1, Option.map_some, wd, hi5, Y1, hdm, hrm])
        (refine uJ rfl (fun hc => ?_) fun hc => ?_)
        · have hsm := hE.small ht2 htp (by omega)
          (repeat first | refine uA ?_ | (apply S.exit; exact rfl) | (refine uK ?_ ?_; focus first | omega | trivial | exact id | (intro h; rw [h]; rfl) | (intro h h2; rw [h, h2]; rfl) | (intro h; (try simp at h); omega) | (intros; simp_all <;> omega)) | simp only [go_sem, Nat.reduceBEq, Nat.reduceAdd, Nat.reduceLeDiff, Int.reduceToNat, Int.reducePow] | simp (disch := omega) only [ww])
          exact S.met (d - 1) ⟨hsm, hE.fin (by omega) ht2 hsm (by omega)⟩ (by (repeat first | refine uA ?_ | (refine ⟨?_, ?_⟩; focus first | rfl | trivial | (simp [slot]; done)) | rfl | trivial | simp))
        · (repeat first | refine uA ?_ | (apply S.exit; exact rfl) | (refine uK ?_ ?_; focus first | omega | trivial | exact id | (intro h; rw [h]; rfl) | (intro h h2; rw [h, h2]; rfl) | (intro h; (try simp at h); omega) | (intros; simp_all <;> omega)) | simp only [go_sem, Nat.reduceBEq, Nat.reduceAdd, Nat.reduceLeDiff, Int.reduceToNat, Int.reducePow] | simp (disch := omega) only [ww])
          refine S.next (x := (d, rest)) (d - 1, rest + v1) ⟨by simp only; omega, ht2, by simp only; omega, by simp only; omega⟩ (by simp only; omega) (by (repeat first | refine uA ?_ | (refine ⟨?_, ?_⟩; focus first | rfl | trivial | (simp [slot]; done)) | rfl | trivial | simp))
      · have hdl : d < 4294967296 := by
          rcases Nat.lt_or_ge d 4294967296 with h | h
          · exact h
          · exfalso; omega
        rw [hmul hdl] at hc
        (repeat first | refine uA ?_ | (apply S.exit; exact rfl) | (refine uK ?_ ?_; focus first | omega | trivial | exact id | (intro h; rw [h]; rfl) | (intro h h2; rw [h, h2]; rfl) | (intro h; (try simp at h); omega) | (intros; simp_all <;> omega)) | simp only [go_sem, Nat.reduceBEq, Nat.reduceAdd, Nat.reduceLeDiff, Int.reduceToNat, Int.reducePow] | simp (disch := omega) only [ww])
        exact S.met d ⟨hdl, hE.fin p1 p2 hdl (by omega)⟩ (by (repeat first | refine uA ?_ | (refine ⟨?_, ?_⟩; focus first | rfl | trivial | (simp [slot]; done)) | rfl | trivial | simp))
    · clear hs0 hd0 hr0 hd0b hq hqr
      rintro d ⟨hd32, hfin⟩
      simp only [ints]
      generalize hW : Nm.wv 4294967296 (us.drop k) = W at *
      generalize hVV : Nm.wv 4294967296 v = V at *
      have htake := c1S (E := ⟨Tryz.prog, eff, 179, w, fun _ => False, O, [], []⟩) rfl us qs v k d (by omega) (by omega) hua hva hd32 (W := W) (by rw [g1])
      rw [hVV] at htake
      have hlo : ((k : Int) + (n : Int) + 1).toNat - k = v.length + 1 := by omega
      have hqk : k < qs.length := by omega
      have hgq : qs[k]? = some (qs[k]'hqk) := List.getElem?_eq_getElem hqk
      have hpos : 0 < V := hE.pos
      have hlk : k + v.length + 1 <= us.length := by omega
      have hWl : W < 4294967296 ^ (v.length + 1) := by
        have := Nm.I7 4294967296 hwa
        rwa [g4, g1] at this
      have hVl : V <= 4294967296 ^ (v.length + 1) := by
        rw [<- hVV]
        exact Nat.le_of_lt (Nat.lt_of_lt_of_le (Nm.I7 4294967296 hva) (Nat.pow_le_pow_right (by decide) (by omega)))
      have hput : ∀ l, put us k (Nm.dig 4294967296 (v.length + 1) l) = us.take k ++ Nm.dig 4294967296 (v.length + 1) l ++ us.drop (k + v.length + 1) := fun l => by
        rw [put, Nm.G7, Nat.add_assoc]
      have hend : Nm.a5v (Nm.wv 4294967296 x * 2 ^ r) v (x.length + 1) k (put us k (Nm.dig 4294967296 (v.length + 1) (W - W / V * V))) (qs.set k (W / V)) := by
        rw [hput]
        refine Nm.b7j hinv hva (by omega) (Nm.G7 _ _ _) (Nm.a0p (by decide) _ _) (by rw [hW, hVV]) ?_ (by rw [hVV]; exact hpos)
        have hm1 := Nat.div_mul_le_self W V
        rw [Nm.Q7 (by omega), hW, hVV]; omega
      (repeat first | refine uA ?_ | (apply S.exit; exact rfl) | (refine uK ?_ ?_; focus first | omega | trivial | exact id | (intro h; rw [h]; rfl) | (intro h h2; rw [h, h2]; rfl) | (intro h; (try simp at h); omega) | (intros; simp_all <;> omega)) | simp only [go_sem, Nat.reduceBEq, Nat.reduceAdd, Nat.reduceLeDiff, Int.reduceToNat, Int.reducePow, o9, hlo] | simp (disch := omega) only [ww, o9, hlo] | refine q9.t htake ?_)
      (refine uJ rfl (fun hc => ?_) fun hc => ?_)
      · rcases hfin with ⟨h1, h2⟩ | ⟨h1, h2, h3⟩
        · omega
        rw [if_pos h1]
        have hm : (d - 1) * V + V = d * V := by
          conv => rhs; rw [show d = d - 1 + 1 by omega, Nat.add_mul, Nat.one_mul]
        have hm2 := Nat.div_mul_le_self W V
        rw [h3] at hend hm2
        have hpl : (put us k (Nm.dig 4294967296 (v.length + 1) (W + 4294967296 ^ (v.length + 1) * 1 - d * V))).length = us.length := X3 (by rw [Nm.G7]; omega)
        have hdV : d * V <= W + 4294967296 ^ (v.length + 1) := by
          omega
        have hback := c2k (E := ⟨Tryz.prog, eff, 179, w, fun _ => False, O, [], []⟩) rfl (put us k (Nm.dig 4294967296 (v.length + 1) (W + 4294967296 ^ (v.length + 1) * 1 - d * V))) qs v k (by omega) (by omega) (c0O hua (Nm.a0p (by decide) _ _)) hva (W := W + 4294967296 ^ (v.length + 1) * 1 - d * V) (by
          rw [a1x (Nm.G7 _ _ _).symm (by rw [Nm.G7]; omega), Nm.Q7 (by omega)]) (by rw [hVV]; omega)
        rw [hVV, c0U (by rw [Nm.G7, Nm.G7]) (by rw [Nm.G7]; omega), show W + 4294967296 ^ (v.length + 1) * 1 - d * V + V - 4294967296 ^ (v.length + 1) = W - (d - 1) * V by omega] at hback
        have hdm : (d : Int) - 1 = ((d - 1 : Nat) : Int) := by omega
        (repeat first | refine uA ?_ | (apply S.exit; exact rfl) | (refine uK ?_ ?_; focus first | omega | trivial | exact id | (intro h; rw [h]; rfl) | (intro h h2; rw [h, h2]; rfl) | (intro h; (try simp at h); omega) | (intros; simp_all <;> omega)) | simp only [go_sem, Nat.reduceBEq, Nat.reduceAdd, Nat.reduceLeDiff, Int.reduceToNat, Int.reducePow, o9, y9, hgq, Option.map_some, wd, hlo, hpl, hdm, F8] | simp (disch := omega) only [ww, o9, y9, hgq, Option.map_some, wd, hlo, hpl, hdm, F8] | refine q9.t hback ?_)
        refine S.next (x := (k + 1, us, qs)) (k, _, _) ⟨by simp only; omega, hend⟩ (by simp only; omega) (by (repeat first | refine uA ?_ | (refine ⟨?_, ?_⟩; focus first | rfl | trivial | (simp [slot]; done)) | rfl | trivial | simp))
      · rcases hfin with ⟨h1, h2⟩ | ⟨h1, h2, h3⟩
        · rw [if_neg (by omega), Nat.mul_zero, Nat.add_zero]
          rw [h2] at hend
          (repeat first | refine uA ?_ | (apply S.exit; exact rfl) | (refine uK ?_ ?_; focus first | omega | trivial | exact id | (intro h; rw [h]; rfl) | (intro h h2; rw [h, h2]; rfl) | (intro h; (try simp at h); omega) | (intros; simp_all <;> omega)) | simp only [go_sem, Nat.reduceBEq, Nat.reduceAdd, Nat.reduceLeDiff, Int.reduceToNat, Int.reducePow, o9, y9, hgq, Option.map_some, wd, F8] | simp (disch := omega) only [ww, o9, y9, hgq, Option.map_some, wd, F8])
          refine S.next (x := (k + 1, us, qs)) (k, _, _) ⟨by simp only; omega, hend⟩ (by simp only; omega) (by (repeat first | refine uA ?_ | (refine ⟨?_, ?_⟩; focus first | rfl | trivial | (simp [slot]; done)) | rfl | trivial | simp))
        · omega
  · have hj0 : j = 0 := by omega
    subst hj0
    clear hc hj
    obtain ⟨e1, e2⟩ := Nm.b8m hinv hva (by omega)
    rw [hvw, Nat.mul_div_mul_right _ _ (Nat.pow_pos (by decide))] at e1
    rw [hvw, Nat.mul_mod_mul_right, hvl] at e2
    have hq : qs = Nm.dig 4294967296 (x.length + 1 - n) (Nm.wv 4294967296 x / Nm.wv 4294967296 y) := Nm.R6 (by decide) hqa (by omega) e1
    rw [<- hq]
    have hps : put us 0 (us.take n) = us := by
      have := a3t (us := us) (k := 0) (n := n) (by omega)
      rwa [List.drop_zero] at this
    have hra : Nm.D9 (us.take n) := hua.take n
    have hrl : (us.take n).length = n := by rw [List.length_take]; omega
    generalize us.take n = r0 at *
    (repeat first | refine uA ?_ | (apply S.exit; exact rfl) | (refine uK ?_ ?_; focus first | omega | trivial | exact id | (intro h; rw [h]; rfl) | (intro h h2; rw [h, h2]; rfl) | (intro h; (try simp at h); omega) | (intros; simp_all <;> omega)) | simp only [go_sem, Nat.reduceBEq, Nat.reduceAdd, Nat.reduceLeDiff, Int.reduceToNat, Int.reducePow, o9] | simp (disch := omega) only [ww, o9])
    refine S.loop (X := Nat × List Nat) (fun s => ⟨[(4, .rv 1), (5, .wv 0 1 0 n), (6, ints r), (7, ints n), (8, .rv 0), (145, ints n), (146, ints s.1)], [.row 240 1 (ws (put us 0 s.2)), .row 240 1 (ws qs)]⟩) (fun s => s.1 <= n /\ Nm.a3L r0 (2 ^ r) s.1 s.2) (fun s => n - s.1) (0, r0) ⟨Nat.zero_le _, Nm.b1F hra⟩ (by simp only [hps]; exact (by (repeat first | refine uA ?_ | (refine ⟨?_, ?_⟩; focus first | rfl | trivial | (simp [slot]; done)) | rfl | trivial | simp))) ?_
    rintro ⟨i, out⟩ ⟨hi, hri⟩
    simp only [ints] at hi hri ⊢
    have hol := hri.1
    have hpl : (put us 0 out).length = us.length := X3 (by omega)
    (repeat first | refine uA ?_ | (apply S.exit; exact rfl) | (refine uK ?_ ?_; focus first | omega | trivial | exact id | (intro h; rw [h]; rfl) | (intro h h2; rw [h, h2]; rfl) | (intro h; (try simp at h); omega) | (intros; simp_all <;> omega)) | simp only [go_sem, Nat.reduceBEq, Nat.reduceAdd, Nat.reduceLeDiff, Int.reduceToNat, Int.reducePow] | simp (disch := omega) only [ww])
    (refine uJ rfl (fun hc => ?_) fun hc => ?_)
    · have hi' : i < n := by omega
      have hgr : r0[i]? = some (r0[i]'(by omega)) := List.getElem?_eq_getElem (by omega)
      have hgo : (put us 0 out)[i]? = some (r0[i]'(by omega)) := by
        have := O3 (us := us) (out := out) (k := 0) (i := i) (by omega) (by omega)
        rw [Nat.zero_add] at this
        rw [this, Nm.Z4 hri.2.2.1, hgr]
      have hr32' := hra _ (List.getElem_mem (show i < r0.length by omega))
      have hir : i < r0.length := by omega
      have hk := fun t ht => Nm.b1C (t := t) hri hr32 hir hra ht
      have hset : ∀ a, (put us 0 out).set i a = put us 0 (out.set i a) := fun a => by
        have := X6 (us := us) (out := out) (k := 0) (i := i) (v := a) (by omega) (by omega)
        rwa [Nat.zero_add] at this
      generalize r0[i]'(by omega) = ri at *
      have hsh : Int.fdiv (ri : Int) (2 ^ min r 32) = ((ri / 2 ^ r : Nat) : Int) := by
        rw [show min r 32 = r by omega, <- a1r]; congr 1
      have hrb : ri / 2 ^ r < 4294967296 := Nat.lt_of_le_of_lt (Nat.div_le_self _ _) hr32'
      generalize ri / 2 ^ r = rs at *
      (repeat first | refine uA ?_ | (apply S.exit; exact rfl) | (refine uK ?_ ?_; focus first | omega | trivial | exact id | (intro h; rw [h]; rfl) | (intro h h2; rw [h, h2]; rfl) | (intro h; (try simp at h); omega) | (intros; simp_all <;> omega)) | simp only [go_sem, Nat.reduceBEq, Nat.reduceAdd, Nat.reduceLeDiff, Int.reduceToNat, Int.reducePow, o9, y9, hgo, Nat.zero_add, Option.map_some, wd, F8, hsh, hset] | simp (disch := omega) only [ww, o9, y9, hgo, Nat.zero_add, Option.map_some, wd, F8, hsh, hset])
      (refine uJ rfl (fun hc => ?_) fun hc => ?_)
      · have hi1 : i + 1 < n := by omega
        have hpl1 : (put us 0 (out.set i rs)).length = us.length := X3 (by rw [List.length_set]; omega)
        have hg1 : (put us 0 (out.set i rs))[i]? = some rs := by
          rw [<- hset, List.getElem?_set_self (by omega)]
        have hg3 : r0[i + 1]? = some (r0[i + 1]'(by omega)) := List.getElem?_eq_getElem (by omega)
        have hg2 : (put us 0 (out.set i rs))[i + 1]? = some (r0[i + 1]'(by omega)) := by
          have := O3 (us := us) (out := out) (k := 0) (i := i + 1) (by omega) (by omega)
          rw [Nat.zero_add] at this
          rw [<- hset, List.getElem?_set_ne (by omega), this]
          have h3 := congrArg (fun l => l[1]?) hri.2.2.1
          simp only [List.getElem?_drop] at h3
          rw [h3, hg3]
        have hn32 := hra _ (List.getElem_mem (show i + 1 < r0.length by omega))
        have hgd : r0.getD (i + 1) 0 = r0[i + 1]'(by omega) := Nm.getD_lt (by omega)
        rw [hgd] at hk
        generalize r0[i + 1]'(by omega) = rn at *
        have hmb : rn * 2 ^ (32 - r) < 18446744073709551616 := by
          have h1 : 2 ^ (32 - r) <= 2 ^ 32 := Nat.pow_le_pow_right (by decide) (by omega)
          have h2 : rn * 2 ^ (32 - r) <= 4294967295 * 4294967296 := Nat.mul_le_mul (by omega) h1
          omega
        have hshl := b5F rn (32 - r) hmb (by omega)
        have hrr : ((32 : Int) - (r : Int)).toNat = 32 - r := by omega
        have horl := b7G rs (rn * 2 ^ (32 - r)) hrb
        have hk := hk _ rfl
        rw [if_pos (by omega)] at hk
        generalize rn * 2 ^ (32 - r) = sh at *
        generalize hto : rs ||| sh % 4294967296 = to at *
        have hset2 : (put us 0 (out.set i rs)).set i to = put us 0 (out.set i to) := by
          have := X6 (us := us) (out := out.set i rs) (k := 0) (i := i) (v := to) (by rw [List.length_set]; omega) (by rw [List.length_set]; omega)
          rwa [Nat.zero_add, List.set_set] at this
        have hi1n : ((i : Int) + 1).toNat = i + 1 := by omega
        (repeat first | refine uA ?_ | (apply S.exit; exact rfl) | (refine uK ?_ ?_; focus first | omega | trivial | exact id | (intro h; rw [h]; rfl) | (intro h h2; rw [h, h2]; rfl) | (intro h; (try simp at h); omega) | (intros; simp_all <;> omega)) | simp only [go_sem, Nat.reduceBEq, Nat.reduceAdd, Nat.reduceLeDiff, Int.reduceToNat, Int.reducePow, o9, y9, hg1, hg2, hpl1, Nat.zero_add, Option.map_some, wd, hrr, hi1n, hshl, a0S, horl, F8, hset2] | simp (disch := omega) only [ww, o9, y9, hg1, hg2, hpl1, Nat.zero_add, Option.map_some, wd, hrr, hi1n, hshl, a0S, horl, F8, hset2])
        refine S.next (x := (i, out)) (i + 1, _) ⟨hi', hk.1⟩ (by simp only; omega) (by (repeat first | refine uA ?_ | (refine ⟨?_, ?_⟩; focus first | rfl | trivial | (simp [slot]; done)) | rfl | trivial | simp))
      · have hk := hk _ rfl
        rw [if_neg (by omega)] at hk
        (repeat first | refine uA ?_ | (apply S.exit; exact rfl) | (refine uK ?_ ?_; focus first | omega | trivial | exact id | (intro h; rw [h]; rfl) | (intro h h2; rw [h, h2]; rfl) | (intro h; (try simp at h); omega) | (intros; simp_all <;> omega)) | simp only [go_sem, Nat.reduceBEq, Nat.reduceAdd, Nat.reduceLeDiff, Int.reduceToNat, Int.reducePow] | simp (disch := omega) only [ww])
        refine S.next (x := (i, out)) (i + 1, _) ⟨hi', hk.1⟩ (by simp only; omega) (by (repeat first | refine uA ?_ | (refine ⟨?_, ?_⟩; focus first | rfl | trivial | (simp [slot]; done)) | rfl | trivial | simp))
    · have hi' : i = n := by omega
      subst hi'
      rw [<- hrl] at hri
      have he := Nm.b3z hri (by omega) e2
      have hd : out = Nm.dig 4294967296 i (Nm.wv 4294967296 x % Nm.wv 4294967296 y) := Nm.R6 (by decide) hri.2.1 (by omega) he
      rw [<- hd]
      have hwin : ((ws (put us 0 out)).drop 0).take i = ws out := by
        rw [List.drop_zero, put, List.take_zero, List.nil_append]
        simp only [ws, List.map_append]
        rw [List.take_append_of_le_length (by simp; omega), List.take_of_length_le (by simp; omega)]
      (repeat first | refine uA ?_ | (apply S.exit; exact rfl) | (refine uK ?_ ?_; focus first | omega | trivial | exact id | (intro h; rw [h]; rfl) | (intro h h2; rw [h, h2]; rfl) | (intro h; (try simp at h); omega) | (intros; simp_all <;> omega)) | simp only [go_sem, Nat.reduceBEq, Nat.reduceAdd, Nat.reduceLeDiff, Int.reduceToNat, Int.reducePow] | simp (disch := omega) only [ww])
      exact S.done (d9.out rfl (Imp.tup (l6.cons (Imp.frz rfl rfl rfl) (l6.cons (Imp.I8 rfl rfl (by simp only [o9]; omega) hwin) l6.nil))) rfl)
namespace Nm
def a9V (x : List Nat) (d j : Nat) (out : List Nat) (rest : Nat) : Prop :=
 out.length = x.length /\ D9 out /\ out.take j = x.take j /\ wv 4294967296 (out.drop j) = wv 4294967296 (x.drop j) / d /\ rest = wv 4294967296 (x.drop j) % d
theorem b4l {x : List Nat} {d : Nat} (hx : D9 x) : a9V x d x.length x 0 := by
 refine ⟨rfl, hx, rfl, ?_, ?_⟩ <;> rw [List.drop_of_length_le (Nat.le_refl _)] <;> simp [wv]
theorem b4o {x : List Nat} {d j : Nat} {out : List Nat} {rest : Nat} (h : a9V x d (j + 1) out rest) (hj : j < x.length) (hd : 0 < d) (hd32 : d < 4294967296) (hx : x[j] < 4294967296) :
  a9V x d j (out.set j ((rest * 4294967296 + x[j]) / d)) ((rest * 4294967296 + x[j]) % d) /\ (rest * 4294967296 + x[j]) / d < 4294967296 /\ rest < 4294967296 := by
 obtain ⟨h1, h2, h3, h4, h5⟩ := h
 have hrd : rest < d := by rw [h5]; exact Nat.mod_lt _ hd
 have hs : (rest * 4294967296 + x[j]) / d < 4294967296 := by
  rw [Nat.div_lt_iff_lt_mul hd]
  have : (rest + 1) * 4294967296 <= d * 4294967296 := Nat.mul_le_mul_right _ hrd
  rw [Nat.mul_comm d] at this; omega
 have hxd := a1I 4294967296 hj
 have hW := Nat.div_add_mod (wv 4294967296 (x.drop (j + 1))) d
 rw [<- h5, <- h4] at hW
 have e : wv 4294967296 (x.drop j) = (rest * 4294967296 + x[j]) + d * (4294967296 * wv 4294967296 (out.drop (j + 1))) := by
  rw [hxd, <- hW, Nat.mul_add]; grind
 refine ⟨⟨by simp [h1], h2.set hs, ?_, ?_, ?_⟩, hs, by omega⟩
 ·rw [List.take_set_of_le (Nat.le_refl _)]
  have := congrArg (List.take j) h3
  simpa [List.take_take, Nat.min_eq_left (show j <= j + 1 by omega)] using this
 ·rw [a1I _ (by rw [List.length_set]; omega), List.getElem_set_self, List.drop_set_of_lt (by omega), e, Nat.add_mul_div_left _ _ hd]
 ·rw [e, Nat.add_mul_mod_self_left]
theorem I4 {α : Type} {a b : List α} {j : Nat} (h : a.take (j + 1) = b.take (j + 1)) : a[j]? = b[j]? := by
 have := congrArg (fun l => l[j]?) h
 simpa using this
end Nm
theorem Y6 (l : List UInt8) : (bs l = (⟨#[]⟩ : ByteArray)) = (l = []) := b1W l []
theorem b6l (a b : List UInt8) (ha : a.length <= 274877906944) (hb : b.length <= 274877906944) (h0 : Nm.val b ≠ 0) : r9 Tryz.prog 183 [sb a, sb b] (.tup [sb (Nm.enc (Nm.val a / Nm.val b)), sb (Nm.enc (Nm.val a % Nm.val b)), ints 0]) := by
  refine r9.of b6o b7f (by exact Nat.le_of_ble_eq_true rfl) fun w O => ?_
  simp only [a9r, l5, TT, II, OA, OB, OC, MM, LL, VV, FF, MG, LG, VG, FG, sb, ints]
  have hta := Nm.S9 a
  have htb := Nm.S9 b
  have hva := Nm.L9 a
  have hvb := Nm.L9 b
  have hla := Nm.Q0 (Nm.trim a)
  have hlb := Nm.Q0 (Nm.trim b)
  have hwa := Nm.Y7 (Nm.trim a)
  have hwb := Nm.Y7 (Nm.trim b)
  have h3a := Nm.Y5 (Nm.trim a)
  have h3b := Nm.Y5 (Nm.trim b)
  have hca := Nm.Q6 a
  have hcb := Nm.Q6 b
  have htopb := Nm.a6C (Nm.trim b)
  have htopa := Nm.a6C (Nm.trim a)
  have fta := a0f a (by omega)
  have ftb := a0f b (by omega)
  rw [Nm.a6j] at hla hlb
  rw [<- hva, <- hvb]
  rw [<- hvb] at h0
  clear hva hvb
  generalize Nm.trim a = x at *
  generalize Nm.trim b = y at *
  have hy0 : y ≠ [] := fun h => by subst h; exact h0 rfl
  (repeat first | refine uA ?_ | (apply S.exit; exact rfl) | (refine uK ?_ ?_; focus first | omega | trivial | exact id | (intros; simp_all <;> omega)) | simp (disch := omega) only [go_sem, Nat.reduceBEq, Nat.reduceAdd, Nat.reduceLeDiff, Int.reduceToNat, Int.reducePow, ww, y8] | (refine uB fta ?_ ?_; exact rfl) | (refine uB ftb ?_ ?_; exact rfl))
  (refine uJ rfl (fun hc => ?_) fun hc => ?_)
  · rw [Y6] at hc; exact absurd hc hy0
  (repeat first | refine uA ?_ | (apply S.exit; exact rfl) | (refine uK ?_ ?_; focus first | omega | trivial | exact id | (intros; simp_all <;> omega)) | simp (disch := omega) only [go_sem, Nat.reduceBEq, Nat.reduceAdd, Nat.reduceLeDiff, Int.reduceToNat, Int.reducePow, ww, y8])
  (refine uJ rfl (fun hc => ?_) fun hc => ?_)
  · have hx7 := Nm.Y0 (l := x) (k := 8) (by omega)
    have hy7 := Nm.Y0 (l := y) (k := 8) (by omega)
    have e1 : Nm.val x % 18446744073709551616 = Nm.val x := Nat.mod_eq_of_lt (by omega)
    have e2 : Nm.val y % 18446744073709551616 = Nm.val y := Nat.mod_eq_of_lt (by omega)
    have fx := a1z x (by omega)
    have fy := a1z y (by omega)
    rw [e1] at fx
    rw [e2] at fy
    have hqb : Nm.val x / Nm.val y < 18446744073709551616 := Nat.lt_of_le_of_lt (Nat.div_le_self _ _) (by omega)
    have hrb : Nm.val x % Nm.val y < 18446744073709551616 := Nat.lt_of_lt_of_le (Nat.mod_lt _ (by omega)) (by omega)
    have hf := Z7 _ hqb
    have hg := Z7 _ hrb
    have hq : Int.tdiv (Nm.val x : Int) (Nm.val y : Int) = ((Nm.val x / Nm.val y : Nat) : Int) := rfl
    have hr : Int.tmod (Nm.val x : Int) (Nm.val y : Int) = ((Nm.val x % Nm.val y : Nat) : Int) := rfl
    generalize Nm.val x / Nm.val y = q at *
    generalize Nm.val x % Nm.val y = r at *
    (repeat first | refine uA ?_ | (apply S.exit; exact rfl) | (refine uK ?_ ?_; focus first | omega | trivial | exact id | (intros; simp_all <;> omega)) | simp (disch := omega) only [go_sem, Nat.reduceBEq, Nat.reduceAdd, Nat.reduceLeDiff, Int.reduceToNat, Int.reducePow, ww, hq, hr] | (refine uB fx ?_ ?_; exact rfl) | (refine uB fy ?_ ?_; exact rfl) | (refine uB hf ?_ ?_; exact rfl) | (refine uB hg ?_ ?_; exact rfl))
    exact S.done (d9.out rfl (Imp.refl rfl) rfl)
  have hcn := b3l (Nm.val x) (Nm.val y)
  (repeat first | refine uA ?_ | (apply S.exit; exact rfl) | (refine uK ?_ ?_; focus first | omega | trivial | exact id | (intros; simp_all <;> omega)) | simp (disch := omega) only [go_sem, Nat.reduceBEq, Nat.reduceAdd, Nat.reduceLeDiff, Int.reduceToNat, Int.reducePow, ww] | (refine uB (a9q x y (by omega) (by omega)) ?_ ?_; exact rfl))
  (refine uJ rfl (fun hc => ?_) fun hc => ?_)
  · have h1 := hcn.1 hc
    rw [Nat.div_eq_of_lt h1, Nat.mod_eq_of_lt h1, Nm.a2g, Nm.a0O hca]
    (repeat first | refine uA ?_ | (apply S.exit; exact rfl) | (refine uK ?_ ?_; focus first | omega | trivial | exact id | (intros; simp_all <;> omega)) | simp (disch := omega) only [go_sem, Nat.reduceBEq, Nat.reduceAdd, Nat.reduceLeDiff, Int.reduceToNat, Int.reducePow, ww])
    exact S.done (d9.out rfl (Imp.refl rfl) rfl)
  have hge : Nm.val y <= Nm.val x := by
    rcases Nat.lt_or_ge (Nm.val x) (Nm.val y) with h | h
    · exact absurd (hcn.2 h) hc
    · exact h
  have fwx := a1C x (by omega)
  have fwy := (a1C y (by omega)).spec
  rw [<- hwa, <- hwb] at hge
  rw [<- hwb] at h0
  rw [<- hwa] at htopa
  rw [<- hwb] at htopb
  rw [<- hwa, <- hwb]
  clear hwa hwb hcn hc
  generalize Nm.H6 x = p at *
  generalize Nm.H6 y = q at *
  have hq0 : q ≠ [] := fun h => by subst h; exact h0 rfl
  have hql : 0 < q.length := List.length_pos_iff.2 hq0
  have hle : q.length <= p.length := by
    rcases Nat.lt_or_ge p.length q.length with h | h
    · exfalso
      have h2 := htopb hq0
      have h3 := Nm.I7 4294967296 h3a
      have h4 : 4294967296 ^ p.length <= 4294967296 ^ (q.length - 1) := Nat.pow_le_pow_right (by decide) (by omega)
      omega
    · exact h
  (repeat first | refine uA ?_ | (apply S.exit; exact rfl) | (refine uK ?_ ?_; focus first | omega | trivial | exact id | (intros; simp_all <;> omega)) | simp (disch := omega) only [go_sem, Nat.reduceBEq, Nat.reduceAdd, Nat.reduceLeDiff, Int.reduceToNat, Int.reducePow, ww, o9] | refine q9.t (FNew.t fwx rfl) ?_ | (refine uB fwy ?_ ?_; exact rfl))
  clear fwx fwy fta ftb
  (refine uJ rfl (fun hc => ?_) fun hc => ?_)
  · obtain ⟨d, rfl⟩ : ∃ d, q = [d] := by
      match q, hc with
      | [d], _ => exact ⟨d, rfl⟩
      | [], h => simp at h
      | _ :: _ :: _, h => simp at h; omega
    have hd32 : d < 4294967296 := h3b d (by simp)
    have hwd : Nm.wv 4294967296 [d] = d := by simp [Nm.wv]
    rw [hwd] at h0 ⊢
    have hpl : p.length <= 68719476737 := by omega
    clear hge hle htopa htopb hla hlb hc
    (repeat first | refine uA ?_ | (apply S.exit; exact rfl) | (refine uK ?_ ?_; focus first | omega | trivial | exact id | (intros; simp_all <;> omega)) | simp (disch := omega) only [go_sem, Nat.reduceBEq, Nat.reduceAdd, Nat.reduceLeDiff, Int.reduceToNat, Int.reducePow, ww, o9])
    refine S.loop (X := Nat × List Nat × Nat) (fun s => ⟨[(7, .rv 0), (8, .sl 1 (ws [d])), (9, .v (.int .u64 (s.2.2 : Int))), (10, ints ((s.1 : Int) - 1))], [.row 240 1 (ws s.2.1)]⟩) (fun s => s.1 <= p.length /\ Nm.a9V p d s.1 s.2.1 s.2.2) (fun s => s.1) (p.length, p, 0) ⟨Nat.le_refl _, Nm.b4l h3a⟩ (by (repeat first | refine uA ?_ | (refine ⟨?_, ?_⟩; focus first | rfl | trivial | (simp [slot]; done)) | rfl | trivial | simp)) ?_
    rintro ⟨j, out, rest⟩ ⟨hj, hinv⟩
    simp only [ints] at hj hinv ⊢
    have hol := hinv.1
    (repeat first | refine uA ?_ | (apply S.exit; exact rfl) | (refine uK ?_ ?_; focus first | omega | trivial | exact id | (intros; simp_all <;> omega)) | simp (disch := omega) only [go_sem, Nat.reduceBEq, Nat.reduceAdd, Nat.reduceLeDiff, Int.reduceToNat, Int.reducePow, ww])
    (refine uJ rfl (fun hc => ?_) fun hc => ?_)
    · obtain ⟨k, rfl⟩ : ∃ k, j = k + 1 := ⟨j - 1, by omega⟩
      rw [show (((k + 1 : Nat) : Int) - 1) = (k : Int) by omega]
      have hgp : p[k]? = some (p[k]'(by omega)) := List.getElem?_eq_getElem (by omega)
      have hgo : out[k]? = some (p[k]'(by omega)) := by rw [Nm.I4 hinv.2.2.1, hgp]
      have hp32 := h3a _ (List.getElem_mem (show k < p.length by omega))
      obtain ⟨hs, hq32, hr32⟩ := Nm.b4o hinv (by omega) (by omega) hd32 hp32
      generalize p[k]'(by omega) = pk at *
      have hor := b3h rest pk hr32 hp32
      have hwd0 : (ws [d])[0]? = some (wd d) := rfl
      have hq : Int.tdiv ((rest * 4294967296 + pk : Nat) : Int) (d : Int) = (((rest * 4294967296 + pk) / d : Nat) : Int) := rfl
      have hr : Int.tmod ((rest * 4294967296 + pk : Nat) : Int) (d : Int) = (((rest * 4294967296 + pk) % d : Nat) : Int) := rfl
      generalize rest * 4294967296 + pk = s at *
      generalize s / d = sq at *
      generalize s % d = sr at *
      (repeat first | refine uA ?_ | (apply S.exit; exact rfl) | (refine uK ?_ ?_; focus first | omega | trivial | exact id | (intros; simp_all <;> omega)) | simp (disch := omega) only [go_sem, Nat.reduceBEq, Nat.reduceAdd, Nat.reduceLeDiff, Int.reduceToNat, Int.reducePow, ww, o9, y9, hgo, hwd0, Option.map_some, wd, hor, hq, hr, F8])
      refine S.next (x := (k + 1, out, rest)) (k, _, _) ⟨by simp only; omega, hs⟩ (by simp only; omega) (by (repeat first | refine uA ?_ | (refine ⟨?_, ?_⟩; focus first | rfl | trivial | (simp [slot]; done)) | rfl | trivial | simp))
    · have hj0 : j = 0 := by omega
      subst hj0
      obtain ⟨h1, h2, _, h4, h5⟩ := hinv
      rw [List.drop_zero] at h4 h5
      rw [List.drop_zero] at h4
      rw [<- h4, <- h5]
      have hrd : rest < d := by rw [h5]; exact Nat.mod_lt _ (by omega)
      have ft := a3A out (by omega) h2
      have hf := Z7 rest (by omega)
      (repeat first | refine uA ?_ | (apply S.exit; exact rfl) | (refine uK ?_ ?_; focus first | omega | trivial | exact id | (intros; simp_all <;> omega)) | simp (disch := omega) only [go_sem, Nat.reduceBEq, Nat.reduceAdd, Nat.reduceLeDiff, Int.reduceToNat, Int.reducePow, ww] | (refine uB hf ?_ ?_; exact rfl) | (refine uC ft ?_ ?_ ?_; exact rfl; focus (repeat' first | exact l6.nil | exact Imp.refl rfl | exact Imp.frz rfl rfl rfl | (refine Imp.I8 rfl rfl ?_ ?_; (focus ((try simp only [List.length_append]); omega)); (focus first | rfl | assumption)) | refine l6.cons ?_ ?_); done))
      exact S.done (d9.out rfl (Imp.refl rfl) rfl)
  · have hfl := c2F p q (by omega) h3a h3b hle (by omega) (htopb hq0)
    have hqx := Nm.I7 4294967296 h3a
    have hpw : 4294967296 ^ p.length = 4294967296 ^ (p.length + 1 - q.length) * 4294967296 ^ (q.length - 1) := by
      rw [<- Nat.pow_add]; congr 1; omega
    have hqq : Nm.wv 4294967296 p / Nm.wv 4294967296 q < 4294967296 ^ (p.length + 1 - q.length) := by
      rw [Nat.div_lt_iff_lt_mul (by omega)]
      rw [hpw] at hqx
      exact Nat.lt_of_lt_of_le hqx (Nat.mul_le_mul_left _ (htopb hq0))
    have hqy := Nm.I7 4294967296 h3b
    have hrr : Nm.wv 4294967296 p % Nm.wv 4294967296 q < 4294967296 ^ q.length := Nat.lt_trans (Nat.mod_lt _ (by omega)) hqy
    have ft1 := a3A _ (by rw [Nm.G7]; omega) (Nm.a0p (B := 4294967296) (by decide) (p.length + 1 - q.length) (Nm.wv 4294967296 p / Nm.wv 4294967296 q))
    have ft2 := a3A _ (by rw [Nm.G7]; omega) (Nm.a0p (B := 4294967296) (by decide) q.length (Nm.wv 4294967296 p % Nm.wv 4294967296 q))
    rw [Nm.Q7 hqq] at ft1
    rw [Nm.Q7 hrr] at ft2
    refine S.weaken (st' := ⟨[(7, .sl 1 (ws p)), (8, .sl 1 (ws q))], [.gone]⟩) (Ent.mk _ _ (a0j.cons (Imp.frz rfl rfl rfl) (a0j.cons (Imp.refl rfl) a0j.nil)) (by (repeat first | refine uA ?_ | (refine ⟨?_, ?_⟩; focus first | rfl | trivial | (simp [slot]; done)) | rfl | trivial | simp)) (Nat.zero_le _)) ?_
    (repeat first | refine uA ?_ | (apply S.exit; exact rfl) | (refine uK ?_ ?_; focus first | omega | trivial | exact id | (intros; simp_all <;> omega)) | simp (disch := omega) only [go_sem, Nat.reduceBEq, Nat.reduceAdd, Nat.reduceLeDiff, Int.reduceToNat, Int.reducePow, ww] | (refine uB hfl ?_ ?_; exact rfl) | (refine uB ft1 ?_ ?_; exact rfl) | (refine uB ft2 ?_ ?_; exact rfl))
    exact S.done (d9.out rfl (Imp.refl rfl) rfl)
end Go.Proofs.YtogfpjohjphngaaGreatDoor
namespace Go.Proofs
open Go.Shelf
def Tryz.b2J : Go.Shelf.Ren := ⟨fun | 29 => 255 | n => n, fun | 22 => 189 | 3 => 3 | 4 => 4 | 25 => 192 | 54 => 305 | 0 => 0 | 5 => 5 | n => n, fun | 1 => 3 | n => n⟩
theorem Tryz.b9O : Go.Proofs.Lays7.n29 Tryz.prog Tryz.b2J := {
 mixed := by kernel_rfl
 f29 := Tryz.func255.trans (congrArg some (by kernel_rfl))
 t0 := Tryz.underlying0
 a0 := Tryz.isAgg0
 z0 := Tryz.sizeOf0
 v0 := Tryz.zeroValue0
 i0 := by kernel_rfl
 t3 := Tryz.underlying3
 a3 := Tryz.isAgg3
 z3 := Tryz.sizeOf3
 v3 := Tryz.zeroValue3
 i3 := by kernel_rfl
 t4 := Tryz.underlying4
 a4 := Tryz.isAgg4
 z4 := Tryz.sizeOf4
 v4 := Tryz.zeroValue4
 i4 := by kernel_rfl
 t5 := Tryz.underlying5
 a5 := Tryz.isAgg5
 z5 := Tryz.sizeOf5
 v5 := Tryz.zeroValue5
 i5 := by kernel_rfl
 t22 := Tryz.underlying189
 a22 := Tryz.isAgg189
 z22 := Tryz.sizeOf189
 v22 := Tryz.zeroValue189
 i22 := by kernel_rfl
 t25 := Tryz.underlying192
 a25 := Tryz.isAgg192
 z25 := Tryz.sizeOf192
 v25 := Tryz.zeroValue192
 i25 := by kernel_rfl
 t54 := Tryz.underlying305
 a54 := Tryz.isAgg305
 z54 := Tryz.sizeOf305
 g1 := by kernel_rfl }
open Go.RowKit in
theorem Tryz.bits_TrailingZeros64 (x : Nat) (hx : x < 18446744073709551616) (w : World) (hT : x ≠ 0 -> TabAt 3 Lib.deBruijn64tab w) :
  Calls Tryz.prog 255 #[.int .u64 x] w fun e w' => e = .returned (.int .i64 (Lib.ctz 64 x)) /\ w' = w := Any7.bits_TrailingZeros64 Tryz.b9O x hx w hT
def Tryz.b4w : Go.Shelf.Ren := ⟨fun | 160 => 82 | 232 => 191 | 231 => 190 | 227 => 192 | 234 => 194 | 233 => 193 | 236 => 196 | 235 => 195 | 228 => 228 | 271 => 231 | 151 => 230 | 197 => 229 | 120 => 250 | 152 => 249 | 260 => 248 | 137 => 259 | 119 => 260 | 224 => 261 | 225 => 262 | 217 => 264 | 266 => 265 | n => n, fun | 9 => 9 | 4 => 4 | 3 => 3 | 5 => 5 | 117 => 246 | 116 => 245 | 0 => 0 | 124 => 249 | 21 => 21 | 105 => 275 | 46 => 192 | 119 => 298 | 139 => 301 | 138 => 300 | n => n, fun | 3 => 1 | 4 => 2 | n => n⟩
theorem Tryz.c0R : Go.Proofs.Lays.n160 Tryz.prog Tryz.b4w := {
 mixed := by kernel_rfl
 f119 := Tryz.func260.trans (congrArg some (by kernel_rfl))
 f120 := Tryz.func250.trans (congrArg some (by kernel_rfl))
 f137 := Tryz.func259.trans (congrArg some (by kernel_rfl))
 f151 := Tryz.func230.trans (congrArg some (by kernel_rfl))
 f152 := Tryz.func249.trans (congrArg some (by kernel_rfl))
 f160 := Tryz.func82.trans (congrArg some (by kernel_rfl))
 f197 := Tryz.func229.trans (congrArg some (by kernel_rfl))
 f217 := Tryz.func264.trans (congrArg some (by kernel_rfl))
 f224 := Tryz.func261.trans (congrArg some (by kernel_rfl))
 f225 := Tryz.func262.trans (congrArg some (by kernel_rfl))
 f227 := Tryz.func192.trans (congrArg some (by kernel_rfl))
 f228 := Tryz.func228.trans (congrArg some (by kernel_rfl))
 f231 := Tryz.func190.trans (congrArg some (by kernel_rfl))
 f232 := Tryz.func191.trans (congrArg some (by kernel_rfl))
 f233 := Tryz.func193.trans (congrArg some (by kernel_rfl))
 f234 := Tryz.func194.trans (congrArg some (by kernel_rfl))
 f235 := Tryz.func195.trans (congrArg some (by kernel_rfl))
 f236 := Tryz.func196.trans (congrArg some (by kernel_rfl))
 f260 := Tryz.func248.trans (congrArg some (by kernel_rfl))
 f266 := Tryz.func265.trans (congrArg some (by kernel_rfl))
 f271 := Tryz.func231.trans (congrArg some (by kernel_rfl))
 t0 := Tryz.underlying0
 a0 := Tryz.isAgg0
 z0 := Tryz.sizeOf0
 v0 := Tryz.zeroValue0
 t3 := Tryz.underlying3
 a3 := Tryz.isAgg3
 z3 := Tryz.sizeOf3
 v3 := Tryz.zeroValue3
 t4 := Tryz.underlying4
 a4 := Tryz.isAgg4
 z4 := Tryz.sizeOf4
 v4 := Tryz.zeroValue4
 t5 := Tryz.underlying5
 a5 := Tryz.isAgg5
 z5 := Tryz.sizeOf5
 v5 := Tryz.zeroValue5
 t9 := Tryz.underlying9
 a9 := Tryz.isAgg9
 z9 := Tryz.sizeOf9
 v9 := Tryz.zeroValue9
 t21 := Tryz.underlying21
 a21 := Tryz.isAgg21
 z21 := Tryz.sizeOf21
 v21 := Tryz.zeroValue21
 t46 := Tryz.underlying192
 a46 := Tryz.isAgg192
 z46 := Tryz.sizeOf192
 v46 := Tryz.zeroValue192
 t105 := Tryz.underlying275
 a105 := Tryz.isAgg275
 z105 := Tryz.sizeOf275
 v105 := Tryz.zeroValue275
 t116 := Tryz.underlying245
 a116 := Tryz.isAgg245
 z116 := Tryz.sizeOf245
 t117 := Tryz.underlying246
 a117 := Tryz.isAgg246
 z117 := Tryz.sizeOf246
 v117 := Tryz.zeroValue246
 t119 := Tryz.underlying298
 a119 := Tryz.isAgg298
 z119 := Tryz.sizeOf298
 t124 := Tryz.underlying249
 a124 := Tryz.isAgg249
 z124 := Tryz.sizeOf249
 v124 := Tryz.zeroValue249
 t138 := Tryz.underlying300
 a138 := Tryz.isAgg300
 z138 := Tryz.sizeOf300
 v138 := Tryz.zeroValue300
 t139 := Tryz.underlying301
 a139 := Tryz.isAgg301
 z139 := Tryz.sizeOf301
 v139 := Tryz.zeroValue301
 g3 := by kernel_rfl
 g4 := by kernel_rfl }
end Go.Proofs
namespace Go.Proofs.YtogfpjohjphngaaGreatDoor
open Go Go.RowKit Eng
def Wz (w : World) : Prop := TabAt 3 Lib.deBruijn64tab w
abbrev FZ (f : Nat) (args : List C) (r : C) : Prop := l8 Tryz.prog Wz f args r
namespace Eng
def Tz (E : Ctx) : Prop := Wz E.w0 /\ ¬ E.own0 3
theorem c0z {w : World} (h : Wz w) : 3 < w.heap.size := by
 have := h 0 (by decide)
 exact block_lt_of_cell this
theorem Tz.at {E : Ctx} (h : Tz E) {w : World} (hF : Frm E.own0 E.w0 w) : Wz w := by
 intro j hj
 rw [<- h.1 j hj]
 exact World.cell?_of_block (hF.block _ (c0z h.1) h.2)
section
variable {E : Ctx} {rs : List Res} {f : Nat} {args args' : List C} {r : C}
theorem N7.c2V {p : Bool} (ht : Tz E) (hs : p = true -> l8 E.P Wz f args' r) (hi : p = true -> l6 rs rs args args') (hcl : p = true -> C.clL args' = true) : N7 E rs p f args r := by
 intro hp av ν w vs hR hav hF hD
 have hlt : ∀ b, OO av rs ν b -> b < w.heap.size := fun b hb => by
  rcases hb with hb | hb
  ·exact hR.av b hb
  ·exact (hR.low b hb).1
 have hD' := (hi hp).den hR (Cut.of hR (a2u rs)) hD
 have et : ν.take rs.length = ν := by rw [<- hR.len]; exact List.take_length
 rw [et] at hD'
 refine (hs hp (OO av rs ν) w vs (ht.at hF) hlt (hD'.fz (hcl hp))).mono ?_
 rintro e w' ⟨y, rfl, h1, h2⟩
 exact ⟨y, rfl, h1, h2.den ν⟩
theorem N7.c2P {p : Bool} (ht : Tz E) (hs : p = true -> l8 E.P Wz f args' r) (hi : p = true -> l6 rs [] args args') (hcl : p = true -> C.clL args' = true) (hr : r.flat = true) : N7 E rs p f args r := by
 intro hp av ν w vs hR hav hF hD
 have hC : Cut av rs [] ν := Cut.of hR (by simp [O7])
 have hD' := (hi hp).den hR hC hD
 have hlt : ∀ b, OO av [] (ν.take ([] : List Res).length) b -> b < w.heap.size := fun b hb => by
  rcases hC.sub b hb with hb | hb
  ·exact hR.av b hb
  ·exact (hR.low b hb).1
 refine (hs hp _ w vs (ht.at hF) hlt (hD'.fz (hcl hp))).mono ?_
 rintro e w' ⟨y, rfl, h1, h2⟩
 exact ⟨y, rfl, h1, Fz.flat hr h2⟩
variable {g q : Prop} {p : Bool} {a a' : List C}
theorem uD {P : Program} (hs : l8 P Wz f a' r) [h : By g E rs p f a r q] (ht : Tz E) (e : (E.P, a, (C.bdL rs.length a && C.clL a)) = (P, a', true)) (x : q) : g := by
 injection e with e1 e2
 injection e2 with e2 e3
 rw [Bool.and_eq_true] at e3
 subst e1 e2
 exact h.go (N7.c2V ht (fun _ => hs) (fun _ => l6.refl e3.1) (fun _ => e3.2)) x
theorem uE {P : Program} (hs : l8 P Wz f a' r) [h : By g E rs p f a r q] (ht : Tz E) (e : (E.P, C.clL a', r.flat) = (P, true, true)) (hi : l6 rs [] a a') (x : q) : g := by
 injection e with e1 e2
 injection e2 with e2 e3
 subst e1
 exact h.go (N7.c2P ht (fun _ => hs) (fun _ => hi) (fun _ => e2) e3) x
theorem uG {P : Program} (hs : l8 P Wz f a' r) {st : St} {ok : Prop} {d : Option Nat} {K : St -> Prop} (x : ok /\ KPg st false d K r) : a0c E st false f a ok d K :=
 .inr ⟨x.1, .inr (.inr ⟨r, (fun h => absurd h (by decide)), x.2⟩)⟩
end
theorem tz {P : Program} {eff : Nat -> Bool} {N : Nat} {w : World} {O : Nat -> Prop} (hw : Wz w) : Tz ⟨P, eff, N, w, fun _ => False, O, [], []⟩ := ⟨hw, fun h => h⟩
end Eng
theorem c2f {x : Nat} (h0 : x ≠ 0) (h : x < 18446744073709551616) : Lib.ctz 64 x = Nm.v2 x := by
 unfold Lib.ctz
 rw [if_neg h0]
 obtain ⟨m, h1, _⟩ := Lib.ctzFrom_spec 64 x (by omega) h
 exact (Nm.c0y h1 (by omega)).symm
theorem c3m (x : Nat) (h0 : x ≠ 0) (h : x < 18446744073709551616) : FZ 255 [.v (.int .u64 (x : Int))] (.v (.int .i64 (Nm.v2 x : Int))) := by
 intro O w vs hw hO hA
 simp only [FzL, Fz] at hA
 obtain ⟨y, ys, rfl, rfl, rfl⟩ := hA
 refine (Tryz.bits_TrailingZeros64 x h w (fun _ => hw)).mono ?_
 rintro e w' ⟨rfl, rfl⟩
 exact ⟨_, rfl, Below.refl _ _, by simp only [Fz, c2f h0 h]⟩
set_option maxRecDepth 10000
set_option maxHeartbeats 4000000
def ls (l : List Nat) : List (List C) := l.map lm
theorem q8 (l : List Nat) : (ls l).length = l.length := by simp [ls]
theorem G5 (l : List Nat) (i : Nat) : (ls l)[i]? = (l[i]?).map lm := by simp [ls]
theorem T9 (l : List Nat) (i v : Nat) : (ls l).set i [.v (.int .u64 (v : Int))] = ls (l.set i v) := by
 simp only [ls, List.map_set, lm]
theorem c0f (n : Nat) : List.replicate n [C.v (.int .u64 0)] = ls (List.replicate n 0) := by simp [ls, lm]
theorem c0r (n : Nat) (h : n <= 1099511627776) : IntKind.i64.wrap (((n : Int) + 7).tdiv 8) = (((n + 7) / 8 : Nat) : Int) := by
 have : ((n : Int) + 7).tdiv 8 = (((n + 7) / 8 : Nat) : Int) := rfl
 rw [this, Eng.wrap_i64 (by omega)]
theorem b6f (i : Nat) (h : i <= 1099511627776) : IntKind.i64.wrap ((i : Int).tdiv 8) = ((i / 8 : Nat) : Int) := by
 have : (i : Int).tdiv 8 = ((i / 8 : Nat) : Int) := rfl
 rw [this, Eng.wrap_i64 (by omega)]
theorem a9P (i : Nat) : (i : Int).tmod 8 = ((i % 8 : Nat) : Int) := rfl
theorem b1n (o : Nat) (b : UInt8) (i : Nat) (ho : o < 18446744073709551616) (hb : b.toNat * 2 ^ (8 * (i % 8)) < 18446744073709551616) :
  bits .or .u64 (o : Int) (IntKind.u64.wrap (IntKind.u64.wrap ((b.toNat : Nat) : Int) * 2 ^ min (((i % 8 : Nat) : Int) * 8).toNat 64)) = ((o ||| b.toNat * 2 ^ (8 * (i % 8)) : Nat) : Int) := by
 have h0 := b.toNat_lt
 rw [Eng.wrap_u64 (n := ((b.toNat : Nat) : Int)) (by omega), show min (((i % 8 : Nat) : Int) * 8).toNat 64 = 8 * (i % 8) by omega]
 have e : ((b.toNat : Nat) : Int) * 2 ^ (8 * (i % 8)) = ((b.toNat * 2 ^ (8 * (i % 8)) : Nat) : Int) := by rw [Int.natCast_mul, Int.natCast_pow]; rfl
 rw [e, Eng.wrap_u64 (by omega), a9i _ _ ho hb]
namespace Nm
def J3 (l : List Nat) : Prop := ∀ w ∈ l, w < 18446744073709551616
theorem J3.take {l : List Nat} (h : J3 l) (n : Nat) : J3 (l.take n) := fun w hw => h w (List.mem_of_mem_take hw)
theorem J3.drop {l : List Nat} (h : J3 l) (n : Nat) : J3 (l.drop n) := fun w hw => h w (List.mem_of_mem_drop hw)
def M6 (l : List UInt8) : List Nat := dig 18446744073709551616 ((l.length + 7) / 8) (val l)
theorem a7U (l : List UInt8) : (M6 l).length = (l.length + 7) / 8 := G7 _ _ _
theorem a9n (l : List UInt8) : J3 (M6 l) := a0p (by decide) _ _
theorem a8U (l : List UInt8) : wv 18446744073709551616 (M6 l) = val l := Q7 (by
 refine Nat.lt_of_lt_of_le (U7 l) ?_
 rw [show (18446744073709551616 : Nat) = 256 ^ 8 by decide, <- Nat.pow_mul]
 exact Nat.pow_le_pow_right (by decide) (by omega))
theorem b0s {l : List UInt8} {out : List Nat} (h : a1M l l.length out) : out = M6 l := by
 obtain ⟨h1, h2, h3, _⟩ := h
 exact R6 (by decide) h2 h1 (by rw [h3, Nat.sub_self, List.drop_zero])
end Nm
theorem b5o (m : List UInt8) (hm : m.length <= 1099511627776) : FNew Tryz.prog 238 [sb m] 189 1 (ls (Nm.M6 m)) := by
 refine FNew.of b2p b3o (by exact Nat.le_of_ble_eq_true rfl) fun w O => ?_
 simp only [a6u, l5, TT, II, OA, OB, OC, MM, LL, VV, FF, MG, LG, VG, FG, sb]
 (repeat first | refine uA ?_ | (apply S.exit; exact rfl) | (refine uK ?_ ?_; focus first | omega | trivial | exact id | (intro h; rw [h]; rfl) | (intro h h2; rw [h, h2]; rfl) | (intro h; (try simp at h); omega) | (intros; simp_all <;> omega)) | simp only [go_sem, Nat.reduceBEq, Nat.reduceAdd, Nat.reduceLeDiff, Int.reduceToNat, Int.reducePow, y8, c0r m.length hm] | simp (disch := omega) only [ww, y8, c0r m.length hm])
 refine S.loop (X := Nat × List Nat) (fun x => ⟨[(0, sb m), (3, .rv 0), (11, ints m.length), (12, ints x.1)], [.row 189 1 (ls x.2)]⟩) (fun x => x.1 <= m.length /\ Nm.a1M m x.1 x.2) (fun x => m.length - x.1) (0, List.replicate ((m.length + 7) / 8) 0) ⟨Nat.zero_le _, Nm.a9U m⟩ (by simp only [<- c0f]; exact (by (repeat first | refine uA ?_ | (refine ⟨?_, ?_⟩; focus first | rfl | trivial | (simp [slot]; done)) | rfl | trivial | simp))) ?_
 rintro ⟨i, out⟩ ⟨hi, hinv⟩
 simp only [sb, ints] at hi hinv ⊢
 (repeat first | refine uA ?_ | (apply S.exit; exact rfl) | (refine uK ?_ ?_; focus first | omega | trivial | exact id | (intro h; rw [h]; rfl) | (intro h h2; rw [h, h2]; rfl) | (intro h; (try simp at h); omega) | (intros; simp_all <;> omega)) | simp only [go_sem, Nat.reduceBEq, Nat.reduceAdd, Nat.reduceLeDiff, Int.reduceToNat, Int.reducePow] | simp (disch := omega) only [ww])
 (refine uJ rfl (fun hc => ?_) fun hc => ?_)
 ·have hi' : i < m.length := by omega
  have hol := hinv.1
  have hj : i / 8 < out.length := by omega
  obtain ⟨hst, hlt, hbl⟩ := Nm.a9M hinv hi' hj
  have hgo : out[i / 8]? = some out[i / 8] := List.getElem?_eq_getElem hj
  have ho32 := hinv.2.1 _ (List.getElem_mem hj)
  have hgm : m.getD ((m.length : Int) - 1 - (i : Int)).toNat 0 = m[m.length - 1 - i] := by
   rw [show ((m.length : Int) - 1 - (i : Int)).toNat = m.length - 1 - i by omega, List.getD_eq_getElem?_getD, List.getElem?_eq_getElem (by omega)]
   rfl
  (repeat first | refine uA ?_ | (apply S.exit; exact rfl) | (refine uK ?_ ?_; focus first | omega | trivial | exact id | (intro h; rw [h]; rfl) | (intro h h2; rw [h, h2]; rfl) | (intro h; (try simp at h); omega) | (intros; simp_all <;> omega)) | simp only [go_sem, Nat.reduceBEq, Nat.reduceAdd, Nat.reduceLeDiff, Int.reduceToNat, Int.reducePow, y8, M5, q8, G5, hgo, Option.map_some, hgm, b6f i (by omega), a9P, lm, b1n _ _ _ ho32 hbl, T9] | simp (disch := omega) only [ww, y8, M5, q8, G5, hgo, Option.map_some, hgm, b6f i (by omega), a9P, lm, b1n _ _ _ ho32 hbl, T9])
  refine S.next (x := (i, out)) (i + 1, _) ⟨hi', hst⟩ (by simp only; omega) (by (repeat first | refine uA ?_ | (refine ⟨?_, ?_⟩; focus first | rfl | trivial | (simp [slot]; done)) | rfl | trivial | simp))
 ·have hi' : i = m.length := by omega
  subst hi'
  (repeat first | refine uA ?_ | (apply S.exit; exact rfl) | (refine uK ?_ ?_; focus first | omega | trivial | exact id | (intro h; rw [h]; rfl) | (intro h h2; rw [h, h2]; rfl) | (intro h; (try simp at h); omega) | (intros; simp_all <;> omega)) | simp only [go_sem, Nat.reduceBEq, Nat.reduceAdd, Nat.reduceLeDiff, Int.reduceToNat, Int.reducePow] | simp (disch := omega) only [ww])
  rw [<- Nm.b0s hinv]
  exact S.done (d9.new rfl rfl rfl)
theorem b2R (x y : Nat) (hx : x < 18446744073709551616) (hy : y < 18446744073709551616) : r9 Tryz.prog 221 [.v (.int .u64 (x : Int)), .v (.int .u64 (y : Int))] (.v (.int .u64 (Nat.gcd x y : Int))) := by
 refine r9.of b1I b1t (by exact Nat.le_of_ble_eq_true rfl) fun w O => ?_
 simp only [a5W, l5, TT, II, OA, OB, OC, MM, LL, VV, FF, MG, LG, VG, FG]
 (repeat first | refine uA ?_ | (apply S.exit; exact rfl) | (refine uK ?_ ?_; focus first | omega | trivial | exact id | (intro h; rw [h]; rfl) | (intro h h2; rw [h, h2]; rfl) | (intro h; (try simp at h); omega) | (intros; simp_all <;> omega)) | simp only [go_sem, Nat.reduceBEq, Nat.reduceAdd, Nat.reduceLeDiff, Int.reduceToNat, Int.reducePow] | simp (disch := omega) only [ww])
 refine S.loop (X := Nat × Nat) (fun s => ⟨[(0, .v (.int .u64 (s.1 : Int))), (1, .v (.int .u64 (s.2 : Int)))], []⟩) (fun s => Nat.gcd s.1 s.2 = Nat.gcd x y /\ s.2 < 18446744073709551616) (fun s => s.2) (x, y) ⟨rfl, hy⟩ (by (repeat first | refine uA ?_ | (refine ⟨?_, ?_⟩; focus first | rfl | trivial | (simp [slot]; done)) | rfl | trivial | simp)) ?_
 rintro ⟨a, b⟩ ⟨h1, h2⟩
 simp only at h1 h2 ⊢
 (repeat first | refine uA ?_ | (apply S.exit; exact rfl) | (refine uK ?_ ?_; focus first | omega | trivial | exact id | (intro h; rw [h]; rfl) | (intro h h2; rw [h, h2]; rfl) | (intro h; (try simp at h); omega) | (intros; simp_all <;> omega)) | simp only [go_sem, Nat.reduceBEq, Nat.reduceAdd, Nat.reduceLeDiff, Int.reduceToNat, Int.reducePow] | simp (disch := omega) only [ww])
 (refine uJ rfl (fun hc => ?_) fun hc => ?_)
 ·have hr : Int.tmod (a : Int) (b : Int) = ((a % b : Nat) : Int) := rfl
  have hlt : a % b < b := Nat.mod_lt _ (by omega)
  (repeat first | refine uA ?_ | (apply S.exit; exact rfl) | (refine uK ?_ ?_; focus first | omega | trivial | exact id | (intro h; rw [h]; rfl) | (intro h h2; rw [h, h2]; rfl) | (intro h; (try simp at h); omega) | (intros; simp_all <;> omega)) | simp only [go_sem, Nat.reduceBEq, Nat.reduceAdd, Nat.reduceLeDiff, Int.reduceToNat, Int.reducePow, hr] | simp (disch := omega) only [ww, hr])
  refine S.next (x := (a, b)) (b, a % b) ⟨by rw [<- h1]; simp only; rw [Nat.gcd_comm b, <- Nat.gcd_rec, Nat.gcd_comm], by simp only; omega⟩ (by simp only; omega) (by (repeat first | refine uA ?_ | (refine ⟨?_, ?_⟩; focus first | rfl | trivial | (simp [slot]; done)) | rfl | trivial | simp))
 ·have hb : b = 0 := by omega
  subst hb
  rw [Nat.gcd_zero_right] at h1
  rw [<- h1]
  (repeat first | refine uA ?_ | (apply S.exit; exact rfl) | (refine uK ?_ ?_; focus first | omega | trivial | exact id | (intro h; rw [h]; rfl) | (intro h h2; rw [h, h2]; rfl) | (intro h; (try simp at h); omega) | (intros; simp_all <;> omega)) | simp only [go_sem, Nat.reduceBEq, Nat.reduceAdd, Nat.reduceLeDiff, Int.reduceToNat, Int.reducePow] | simp (disch := omega) only [ww])
  exact S.done (d9.out rfl (Imp.refl rfl) rfl)
theorem c1r (x y : List Nat) (hxl : x.length <= 274877906944) (hyl : y.length <= 274877906944) (hx : Nm.J3 x) (hy : Nm.J3 y) (hxc : ∀ h : x ≠ [], x.getLast h ≠ 0) (hyc : ∀ h : y ≠ [], y.getLast h ≠ 0) :
    r9 Tryz.prog 241 [.sl 1 (ls x), .sl 1 (ls y)] (.v (.bool (decide (Nm.wv 18446744073709551616 x < Nm.wv 18446744073709551616 y)))) := by
  have top : ∀ {a b : List Nat}, Nm.J3 a -> (∀ h : b ≠ [], b.getLast h ≠ 0) -> a.length < b.length -> Nm.wv 18446744073709551616 a < Nm.wv 18446744073709551616 b := by
    intro a b ha hb hl
    have hne : b ≠ [] := fun h => by subst h; simp at hl
    have h1 := Nm.b2A (B := 18446744073709551616) (l := b.dropLast) (hb hne)
    rw [List.dropLast_concat_getLast hne, List.length_dropLast] at h1
    have h2 := Nm.I7 18446744073709551616 ha
    have h3 : 18446744073709551616 ^ a.length <= 18446744073709551616 ^ (b.length - 1) := Nat.pow_le_pow_right (by decide) (by omega)
    omega
  refine r9.of b2l b3Q (by exact Nat.le_of_ble_eq_true rfl) fun w O => ?_
  simp only [a6X, l5, TT, II, OA, OB, OC, MM, LL, VV, FF, MG, LG, VG, FG]
  (repeat first | refine uA ?_ | (apply S.exit; exact rfl) | (refine uK ?_ ?_; focus first | omega | trivial | exact id | (intro h; rw [h]; rfl) | (intro h h2; rw [h, h2]; rfl) | (intro h; (try simp at h); omega) | (intros; simp_all <;> omega)) | simp only [go_sem, Nat.reduceBEq, Nat.reduceAdd, Nat.reduceLeDiff, Int.reduceToNat, Int.reducePow, q8] | simp (disch := omega) only [ww, q8])
  (refine uJ rfl (fun hc => ?_) fun hc => ?_)
  · have he : decide (Nm.wv 18446744073709551616 x < Nm.wv 18446744073709551616 y) = decide ((x.length : Int) < (y.length : Int)) := by
      rw [decide_eq_decide]
      constructor
      · intro h
        rcases Nat.lt_trichotomy x.length y.length with h1 | h1 | h1
        · omega
        · omega
        · have := top hy hxc h1; omega
      · intro h; exact top hx hyc (by omega)
    rw [he]
    (repeat first | refine uA ?_ | (apply S.exit; exact rfl) | (refine uK ?_ ?_; focus first | omega | trivial | exact id | (intro h; rw [h]; rfl) | (intro h h2; rw [h, h2]; rfl) | (intro h; (try simp at h); omega) | (intros; simp_all <;> omega)) | simp only [go_sem, Nat.reduceBEq, Nat.reduceAdd, Nat.reduceLeDiff, Int.reduceToNat, Int.reducePow, q8] | simp (disch := omega) only [ww, q8])
    exact S.done (d9.out rfl (Imp.refl rfl) rfl)
  · have hl : x.length = y.length := by omega
    (repeat first | refine uA ?_ | (apply S.exit; exact rfl) | (refine uK ?_ ?_; focus first | omega | trivial | exact id | (intro h; rw [h]; rfl) | (intro h h2; rw [h, h2]; rfl) | (intro h; (try simp at h); omega) | (intros; simp_all <;> omega)) | simp only [go_sem, Nat.reduceBEq, Nat.reduceAdd, Nat.reduceLeDiff, Int.reduceToNat, Int.reducePow, q8] | simp (disch := omega) only [ww, q8])
    refine S.loop (X := Nat) (fun j => ⟨[(0, .sl 1 (ls x)), (1, .sl 1 (ls y)), (5, ints ((j : Int) - 1))], []⟩) (fun j => j <= x.length /\ x.drop j = y.drop j) (fun j => j) x.length ⟨Nat.le_refl _, by rw [List.drop_of_length_le (Nat.le_refl _), List.drop_of_length_le (by omega)]⟩ (by (repeat first | refine uA ?_ | (refine ⟨?_, ?_⟩; focus first | rfl | trivial | (simp [slot]; done)) | rfl | trivial | simp)) ?_
    rintro j ⟨hj, hd⟩
    simp only [ints]
    (repeat first | refine uA ?_ | (apply S.exit; exact rfl) | (refine uK ?_ ?_; focus first | omega | trivial | exact id | (intro h; rw [h]; rfl) | (intro h h2; rw [h, h2]; rfl) | (intro h; (try simp at h); omega) | (intros; simp_all <;> omega)) | simp only [go_sem, Nat.reduceBEq, Nat.reduceAdd, Nat.reduceLeDiff, Int.reduceToNat, Int.reducePow] | simp (disch := omega) only [ww])
    (refine uJ rfl (fun hc => ?_) fun hc => ?_)
    · obtain ⟨k, rfl⟩ : ∃ k, j = k + 1 := ⟨j - 1, by omega⟩
      rw [show (((k + 1 : Nat) : Int) - 1) = (k : Int) by omega]
      have hgx : x[k]? = some (x[k]'(by omega)) := List.getElem?_eq_getElem (by omega)
      have hgy : y[k]? = some (y[k]'(by omega)) := List.getElem?_eq_getElem (by omega)
      have hsx := Nm.a2j 18446744073709551616 x k (by omega)
      have hsy := Nm.a2j 18446744073709551616 y k (by omega)
      have hdx : x.drop k = x[k]'(by omega) :: x.drop (k + 1) := List.drop_eq_getElem_cons (by omega)
      have hdy : y.drop k = y[k]'(by omega) :: y.drop (k + 1) := List.drop_eq_getElem_cons (by omega)
      generalize x[k]'(by omega) = xk at *
      generalize y[k]'(by omega) = yk at *
      rw [hdx] at hsx
      rw [hdy, <- hd] at hsy
      simp only [Nm.wv] at hsx hsy
      generalize Nm.wv 18446744073709551616 (x.drop (k + 1)) = T at *
      have hlx := Nm.I7 18446744073709551616 (hx.take k)
      have hly := Nm.I7 18446744073709551616 (hy.take k)
      rw [List.length_take, Nat.min_eq_left (by omega)] at hlx hly
      rw [Nat.mul_add] at hsx hsy
      (repeat first | refine uA ?_ | (apply S.exit; exact rfl) | (refine uK ?_ ?_; focus first | omega | trivial | exact id | (intro h; rw [h]; rfl) | (intro h h2; rw [h, h2]; rfl) | (intro h; (try simp at h); omega) | (intros; simp_all <;> omega)) | simp only [go_sem, Nat.reduceBEq, Nat.reduceAdd, Nat.reduceLeDiff, Int.reduceToNat, Int.reducePow, q8, G5, hgx, hgy, Option.map_some, lm] | simp (disch := omega) only [ww, q8, G5, hgx, hgy, Option.map_some, lm])
      (refine uJ rfl (fun hc => ?_) fun hc => ?_)
      · have he : decide (Nm.wv 18446744073709551616 x < Nm.wv 18446744073709551616 y) = decide ((xk : Int) < (yk : Int)) := by
          rw [decide_eq_decide]
          rcases Nat.lt_trichotomy xk yk with h | h | h
          · have := Nat.mul_le_mul_left (18446744073709551616 ^ k) h
            rw [Nat.mul_succ] at this
            omega
          · omega
          · have := Nat.mul_le_mul_left (18446744073709551616 ^ k) h
            rw [Nat.mul_succ] at this
            omega
        rw [he]
        (repeat first | refine uA ?_ | (apply S.exit; exact rfl) | (refine uK ?_ ?_; focus first | omega | trivial | exact id | (intro h; rw [h]; rfl) | (intro h h2; rw [h, h2]; rfl) | (intro h; (try simp at h); omega) | (intros; simp_all <;> omega)) | simp only [go_sem, Nat.reduceBEq, Nat.reduceAdd, Nat.reduceLeDiff, Int.reduceToNat, Int.reducePow, q8, G5, hgx, hgy, Option.map_some, lm] | simp (disch := omega) only [ww, q8, G5, hgx, hgy, Option.map_some, lm])
        exact S.done (d9.out rfl (Imp.refl rfl) rfl)
      · have : xk = yk := by omega
        (repeat first | refine uA ?_ | (apply S.exit; exact rfl) | (refine uK ?_ ?_; focus first | omega | trivial | exact id | (intro h; rw [h]; rfl) | (intro h h2; rw [h, h2]; rfl) | (intro h; (try simp at h); omega) | (intros; simp_all <;> omega)) | simp only [go_sem, Nat.reduceBEq, Nat.reduceAdd, Nat.reduceLeDiff, Int.reduceToNat, Int.reducePow] | simp (disch := omega) only [ww])
        refine S.next (x := k + 1) k ⟨by omega, by rw [hdx, hdy, this, hd]⟩ (by omega) (by (repeat first | refine uA ?_ | (refine ⟨?_, ?_⟩; focus first | rfl | trivial | (simp [slot]; done)) | rfl | trivial | simp))
    · have hj0 : j = 0 := by omega
      subst hj0
      rw [List.drop_zero, List.drop_zero] at hd
      rw [hd]
      have he : decide (Nm.wv 18446744073709551616 y < Nm.wv 18446744073709551616 y) = false := by simp
      rw [he]
      (repeat first | refine uA ?_ | (apply S.exit; exact rfl) | (refine uK ?_ ?_; focus first | omega | trivial | exact id | (intro h; rw [h]; rfl) | (intro h h2; rw [h, h2]; rfl) | (intro h; (try simp at h); omega) | (intros; simp_all <;> omega)) | simp only [go_sem, Nat.reduceBEq, Nat.reduceAdd, Nat.reduceLeDiff, Int.reduceToNat, Int.reducePow] | simp (disch := omega) only [ww])
      exact S.done (d9.out rfl (Imp.refl rfl) rfl)
theorem c0F {x n : Nat} {T : Nat} (h0 : x ≠ 0) (h : x < 18446744073709551616) : Nm.v2 (18446744073709551616 ^ n * (x + 18446744073709551616 * T)) = 64 * n + Nm.v2 x := by
 obtain ⟨q, h1, h2⟩ := Nm.a2c h0
 have hk : Nm.v2 x < 64 := by
  rcases Nat.lt_or_ge (Nm.v2 x) 64 with h3 | h3
  ·exact h3
  ·exfalso
   have h4 : 2 ^ 64 <= 2 ^ Nm.v2 x := Nat.pow_le_pow_right (by decide) h3
   have h5 : 2 ^ Nm.v2 x <= 2 ^ Nm.v2 x * q := Nat.le_mul_of_pos_right _ (by omega)
   omega
 refine Nm.c0y (q := q + 2 ^ (64 - Nm.v2 x) * T) ?_ ?_
 ·have e1 : (18446744073709551616 : Nat) = 2 ^ Nm.v2 x * 2 ^ (64 - Nm.v2 x) := by rw [<- Nat.pow_add, show Nm.v2 x + (64 - Nm.v2 x) = 64 by omega]
  have e2 : (18446744073709551616 : Nat) ^ n = 2 ^ (64 * n) := by rw [Nat.pow_mul]
  rw [e2, Nat.pow_add, Nat.mul_assoc]
  congr 1
  conv => lhs; rw [h1]
  rw [Nat.mul_add, <- Nat.mul_assoc (2 ^ Nm.v2 x), <- e1]
 ·have e3 : 2 ^ (64 - Nm.v2 x) = 2 * 2 ^ (64 - Nm.v2 x - 1) := by rw [<- Nat.pow_succ']; congr 1; omega
  rw [e3, Nat.mul_assoc]; omega
theorem a7g (x : List Nat) (hxl : x.length <= 274877906944) (hx : Nm.J3 x) (h0 : Nm.wv 18446744073709551616 x ≠ 0) : FZ 239 [.sl 1 (ls x)] (ints (Nm.v2 (Nm.wv 18446744073709551616 x))) := by
 refine l8.of b3y b2b (by exact Nat.le_of_ble_eq_true rfl) fun w O hw => ?_
 simp only [a6V, l5, TT, II, OA, OB, OC, MM, LL, VV, FF, MG, LG, VG, FG, ints]
 (repeat first | refine uA ?_ | (apply S.exit; exact rfl) | (refine uK ?_ ?_; focus first | omega | trivial | exact id | (intro h; rw [h]; rfl) | (intro h h2; rw [h, h2]; rfl) | (intro h; (try simp at h); omega) | (intros; simp_all <;> omega)) | simp only [go_sem, Nat.reduceBEq, Nat.reduceAdd, Nat.reduceLeDiff, Int.reduceToNat, Int.reducePow] | simp (disch := omega) only [ww])
 refine S.loop (X := Nat) (fun n => ⟨[(0, .sl 1 (ls x)), (3, ints n)], []⟩) (fun n => n <= x.length /\ Nm.wv 18446744073709551616 x = 18446744073709551616 ^ n * Nm.wv 18446744073709551616 (x.drop n)) (fun n => x.length - n) 0 ⟨Nat.zero_le _, by simp⟩ (by (repeat first | refine uA ?_ | (refine ⟨?_, ?_⟩; focus first | rfl | trivial | (simp [slot]; done)) | rfl | trivial | simp)) ?_
 rintro n ⟨hn, hv⟩
 simp only [ints]
 have hn' : n < x.length := by
  rcases Nat.lt_or_ge n x.length with h | h
  ·exact h
  ·rw [List.drop_of_length_le h] at hv; simp [Nm.wv] at hv; exact absurd hv h0
 have hgx : x[n]? = some (x[n]'hn') := List.getElem?_eq_getElem hn'
 have hd : x.drop n = x[n]'hn' :: x.drop (n + 1) := List.drop_eq_getElem_cons hn'
 have hx64 := hx _ (List.getElem_mem hn')
 generalize x[n]'hn' = xn at *
 rw [hd] at hv
 simp only [Nm.wv] at hv
 (repeat first | refine uA ?_ | (apply S.exit; exact rfl) | (refine uK ?_ ?_; focus first | omega | trivial | exact id | (intro h; rw [h]; rfl) | (intro h h2; rw [h, h2]; rfl) | (intro h; (try simp at h); omega) | (intros; simp_all <;> omega)) | simp only [go_sem, Nat.reduceBEq, Nat.reduceAdd, Nat.reduceLeDiff, Int.reduceToNat, Int.reducePow, q8, G5, hgx, Option.map_some, lm] | simp (disch := omega) only [ww, q8, G5, hgx, Option.map_some, lm])
 (refine uJ rfl (fun hc => ?_) fun hc => ?_)
 ·have hz : xn = 0 := by omega
  subst hz
  (repeat first | refine uA ?_ | (apply S.exit; exact rfl) | (refine uK ?_ ?_; focus first | omega | trivial | exact id | (intro h; rw [h]; rfl) | (intro h h2; rw [h, h2]; rfl) | (intro h; (try simp at h); omega) | (intros; simp_all <;> omega)) | simp only [go_sem, Nat.reduceBEq, Nat.reduceAdd, Nat.reduceLeDiff, Int.reduceToNat, Int.reducePow] | simp (disch := omega) only [ww])
  refine S.next (x := n) (n + 1) ⟨hn', by rw [hv, Nat.zero_add, <- Nat.mul_assoc, Nat.pow_succ]⟩ (by omega) (by (repeat first | refine uA ?_ | (refine ⟨?_, ?_⟩; focus first | rfl | trivial | (simp [slot]; done)) | rfl | trivial | simp))
 ·have hz : xn ≠ 0 := by omega
  have he := c0F (n := n) (T := Nm.wv 18446744073709551616 (x.drop (n + 1))) hz hx64
  rw [<- hv] at he
  rw [he]
  have htz := c3m xn hz hx64
  have hk : Nm.v2 xn < 64 := by
   obtain ⟨q, h1, h2⟩ := Nm.a2c hz
   rcases Nat.lt_or_ge (Nm.v2 xn) 64 with h3 | h3
   ·exact h3
   ·exfalso
    have h4 : 2 ^ 64 <= 2 ^ Nm.v2 xn := Nat.pow_le_pow_right (by decide) h3
    have h5 : 2 ^ Nm.v2 xn <= 2 ^ Nm.v2 xn * q := Nat.le_mul_of_pos_right _ (by omega)
    omega
  have hcast : ((64 * n + Nm.v2 xn : Nat) : Int) = 64 * (n : Int) + (Nm.v2 xn : Int) := by omega
  rw [hcast]
  generalize Nm.v2 xn = k at *
  (repeat first | refine uA ?_ | (apply S.exit; exact rfl) | (refine uK ?_ ?_; focus first | omega | trivial | exact id | (intro h; rw [h]; rfl) | (intro h h2; rw [h, h2]; rfl) | (intro h; (try simp at h); omega) | (intros; simp_all <;> omega)) | simp only [go_sem, Nat.reduceBEq, Nat.reduceAdd, Nat.reduceLeDiff, Int.reduceToNat, Int.reducePow, q8, G5, hgx, Option.map_some, lm] | simp (disch := omega) only [ww, q8, G5, hgx, Option.map_some, lm] | (refine uD htz ?_ ?_ ?_; exact tz hw; exact rfl))
  exact S.done (d9.out rfl (Imp.refl rfl) rfl)
namespace Nm
def E8 (l : List Nat) : List Nat := (l.reverse.dropWhile (· == 0)).reverse
theorem a5t (l : List Nat) : E8 (l ++ [0]) = E8 l := by simp [E8]
theorem a2T {l : List Nat} {x : Nat} (h : x ≠ 0) : E8 (l ++ [x]) = l ++ [x] := by simp [E8, h]
theorem a6S : E8 [] = [] := rfl
theorem a3R (l : List Nat) : E8 l = l.take (E8 l).length /\ (E8 l).length <= l.length /\ (∀ B, wv B (E8 l) = wv B l) /\ (∀ h : E8 l ≠ [], (E8 l).getLast h ≠ 0) := by
 obtain ⟨r, rfl⟩ : ∃ r, l = r.reverse := ⟨l.reverse, by simp⟩
 induction r with
 | nil => simp [a6S]
 | cons x r ih =>
  rw [List.reverse_cons]
  by_cases hx : x = 0
  ·subst hx
   rw [a5t]
   obtain ⟨h1, h2, h3, h4⟩ := ih
   refine ⟨?_, by rw [List.length_append]; omega, fun B => ?_, h4⟩
   ·rw [List.take_append_of_le_length h2]; exact h1
   ·rw [h3, a7m]; simp
  ·rw [a2T hx]
   refine ⟨by rw [List.take_length], Nat.le_refl _, fun B => rfl, fun h => ?_⟩
   rw [List.getLast_concat]; exact hx
theorem b8b (l : List Nat) : (E8 l).length <= l.length := (a3R l).2.1
theorem b9t (B : Nat) (l : List Nat) : wv B (E8 l) = wv B l := (a3R l).2.2.1 B
theorem b6t (l : List Nat) : l.take (E8 l).length = E8 l := (a3R l).1.symm
theorem a9N (l : List Nat) (h : E8 l ≠ []) : (E8 l).getLast h ≠ 0 := (a3R l).2.2.2 h
end Nm
def rw2 (s : Bool) (u o : List Nat) : List Res := match s with
 | true => [.row 189 1 (ls u), .row 189 1 (ls o)]
 | false => [.row 189 1 (ls o), .row 189 1 (ls u)]
section
variable {rs rs' l : List Res} {u o : List Nat} {r : Res}
instance : Sb (P5 rs rs' (rw2 true u o) l) (P5 rs rs' [.row 189 1 (ls u), .row 189 1 (ls o)] l) := ⟨id⟩
instance : Sb (P5 rs rs' (rw2 false u o) l) (P5 rs rs' [.row 189 1 (ls o), .row 189 1 (ls u)] l) := ⟨id⟩
instance : Sb (P5 rs rs' (r :: l) (rw2 true u o)) (P5 rs rs' (r :: l) [.row 189 1 (ls u), .row 189 1 (ls o)]) := ⟨id⟩
instance : Sb (P5 rs rs' (r :: l) (rw2 false u o)) (P5 rs rs' (r :: l) [.row 189 1 (ls o), .row 189 1 (ls u)]) := ⟨id⟩
end
def kx (s : Bool) : Nat := match s with
 | true => 0
 | false => 1
theorem a7h {E : Ctx} (hP : E.P = Tryz.prog) (s : Bool) (u o : List Nat) (lo n : Nat) (hl : u.length <= 274877906944) (hn : lo + n <= u.length) (hlo : lo < u.length) :
    p8 E (rw2 s u o) 256 [.wv (kx s) 1 lo n] (.wv (kx s) 1 lo (Nm.E8 ((u.drop lo).take n)).length) (rw2 s u o) [] := by
  obtain ⟨P, eff', N, w0, own0, av0, nu0, pk0⟩ := E
  simp only at hP
  subst hP
  cases s
  all_goals
    refine p8.of (eff := eff) b6V b5L (by exact Nat.le_of_ble_eq_true rfl) fun w own av ν hν => ?_
    simp only [a9m, l5, TT, II, OA, OB, OC, MM, LL, VV, FF, MG, LG, VG, FG, rw2, kx]
    have hν0 : ν.length <= 2 := by rw [hν]; exact Nat.le_refl _
    (repeat first | refine uA ?_ | (apply S.exit; exact rfl) | (refine uK ?_ ?_; focus first | omega | trivial | exact id | (intros; simp_all <;> omega)) | simp (disch := omega) only [go_sem, Nat.reduceBEq, Nat.reduceAdd, Nat.reduceLeDiff, Int.reduceToNat, Int.reducePow, ww])
  · refine S.loop (X := Nat) (fun m => ⟨[(0, .wv 1 1 lo m)], [.row 189 1 (ls o), .row 189 1 (ls u)]⟩) (fun m => m <= n /\ Nm.E8 ((u.drop lo).take m) = Nm.E8 ((u.drop lo).take n)) (fun m => m) n ⟨Nat.le_refl _, rfl⟩ (Ent.mk _ _ (by (repeat first | refine uA ?_ | (refine ⟨?_, ?_⟩; focus first | rfl | trivial | (simp [slot]; done)) | rfl | trivial | simp)) (by (repeat first | refine uA ?_ | (refine ⟨?_, ?_⟩; focus first | rfl | trivial | (simp [slot]; done)) | rfl | trivial | simp)) hν0) ?_
    rintro m ⟨hm, ht⟩
    have hq : lo + ((m : Int) - 1).toNat < u.length := by omega
    have hg : u[lo + ((m : Int) - 1).toNat]? = some (u[lo + ((m : Int) - 1).toNat]'hq) := List.getElem?_eq_getElem hq
    have hsn : 0 < m -> (u.drop lo).take m = (u.drop lo).take (m - 1) ++ [u[lo + ((m : Int) - 1).toNat]'hq] := fun h => by
      have e1 : (u.drop lo)[m - 1]? = some (u[lo + ((m : Int) - 1).toNat]'hq) := by
        rw [List.getElem?_drop, <- hg]; congr 1; omega
      conv => lhs; rw [show m = m - 1 + 1 by omega, List.take_add_one, e1]
      rfl
    generalize u[lo + ((m : Int) - 1).toNat]'hq = c at *
    (repeat first | refine uA ?_ | (apply S.exit; exact rfl) | (refine uK ?_ ?_; focus first | omega | trivial | exact id | (intros; simp_all <;> omega)) | simp (disch := omega) only [go_sem, Nat.reduceBEq, Nat.reduceAdd, Nat.reduceLeDiff, Int.reduceToNat, Int.reducePow, ww, q8, G5, hg, Option.map_some, lm])
    (refine uJ rfl (fun hc => ?_) fun hc => ?_)
    · obtain ⟨h0, h1⟩ := hc
      have hc0 : c = 0 := by omega
      have hm1 : ((m : Int) - 1) = ((m - 1 : Nat) : Int) := by omega
      rw [hsn (by omega), hc0, Nm.a5t] at ht
      have hm2 : ((m : Int) - 1).toNat = m - 1 := by omega
      (repeat first | refine uA ?_ | (apply S.exit; exact rfl) | (refine uK ?_ ?_; focus first | omega | trivial | exact id | (intros; simp_all <;> omega)) | simp (disch := omega) only [go_sem, Nat.reduceBEq, Nat.reduceAdd, Nat.reduceLeDiff, Int.reduceToNat, Int.reducePow, ww, q8, hm2, Nat.add_zero, Nat.sub_zero, Int.toNat_zero])
      refine S.next (x := m) (m - 1) ⟨by omega, ht⟩ (by omega) (Ent.mk _ _ (by (repeat first | refine uA ?_ | (refine ⟨?_, ?_⟩; focus first | rfl | trivial | (simp [slot]; done)) | rfl | trivial | simp)) (by (repeat first | refine uA ?_ | (refine ⟨?_, ?_⟩; focus first | rfl | trivial | (simp [slot]; done)) | rfl | trivial | simp)) hν0)
    · have hmt : (Nm.E8 ((u.drop lo).take n)).length = m := by
        rw [<- ht]
        rcases Nat.eq_zero_or_pos m with h0 | h0
        · subst h0; simp [Nm.a6S]
        · have hcn : c ≠ 0 := by omega
          rw [hsn h0, Nm.a2T hcn, List.length_append, List.length_take, List.length_drop, List.length_singleton]
          omega
      rw [hmt]
      (repeat first | refine uA ?_ | (apply S.exit; exact rfl) | (refine uK ?_ ?_; focus first | omega | trivial | exact id | (intros; simp_all <;> omega)) | simp (disch := omega) only [go_sem, Nat.reduceBEq, Nat.reduceAdd, Nat.reduceLeDiff, Int.reduceToNat, Int.reducePow, ww])
      exact S.done (d9.own rfl)
  · refine S.loop (X := Nat) (fun m => ⟨[(0, .wv 0 1 lo m)], [.row 189 1 (ls u), .row 189 1 (ls o)]⟩) (fun m => m <= n /\ Nm.E8 ((u.drop lo).take m) = Nm.E8 ((u.drop lo).take n)) (fun m => m) n ⟨Nat.le_refl _, rfl⟩ (Ent.mk _ _ (by (repeat first | refine uA ?_ | (refine ⟨?_, ?_⟩; focus first | rfl | trivial | (simp [slot]; done)) | rfl | trivial | simp)) (by (repeat first | refine uA ?_ | (refine ⟨?_, ?_⟩; focus first | rfl | trivial | (simp [slot]; done)) | rfl | trivial | simp)) hν0) ?_
    rintro m ⟨hm, ht⟩
    have hq : lo + ((m : Int) - 1).toNat < u.length := by omega
    have hg : u[lo + ((m : Int) - 1).toNat]? = some (u[lo + ((m : Int) - 1).toNat]'hq) := List.getElem?_eq_getElem hq
    have hsn : 0 < m -> (u.drop lo).take m = (u.drop lo).take (m - 1) ++ [u[lo + ((m : Int) - 1).toNat]'hq] := fun h => by
      have e1 : (u.drop lo)[m - 1]? = some (u[lo + ((m : Int) - 1).toNat]'hq) := by
        rw [List.getElem?_drop, <- hg]; congr 1; omega
      conv => lhs; rw [show m = m - 1 + 1 by omega, List.take_add_one, e1]
      rfl
    generalize u[lo + ((m : Int) - 1).toNat]'hq = c at *
    (repeat first | refine uA ?_ | (apply S.exit; exact rfl) | (refine uK ?_ ?_; focus first | omega | trivial | exact id | (intros; simp_all <;> omega)) | simp (disch := omega) only [go_sem, Nat.reduceBEq, Nat.reduceAdd, Nat.reduceLeDiff, Int.reduceToNat, Int.reducePow, ww, q8, G5, hg, Option.map_some, lm])
    (refine uJ rfl (fun hc => ?_) fun hc => ?_)
    · obtain ⟨h0, h1⟩ := hc
      have hc0 : c = 0 := by omega
      have hm1 : ((m : Int) - 1) = ((m - 1 : Nat) : Int) := by omega
      rw [hsn (by omega), hc0, Nm.a5t] at ht
      have hm2 : ((m : Int) - 1).toNat = m - 1 := by omega
      (repeat first | refine uA ?_ | (apply S.exit; exact rfl) | (refine uK ?_ ?_; focus first | omega | trivial | exact id | (intros; simp_all <;> omega)) | simp (disch := omega) only [go_sem, Nat.reduceBEq, Nat.reduceAdd, Nat.reduceLeDiff, Int.reduceToNat, Int.reducePow, ww, q8, hm2, Nat.add_zero, Nat.sub_zero, Int.toNat_zero])
      refine S.next (x := m) (m - 1) ⟨by omega, ht⟩ (by omega) (Ent.mk _ _ (by (repeat first | refine uA ?_ | (refine ⟨?_, ?_⟩; focus first | rfl | trivial | (simp [slot]; done)) | rfl | trivial | simp)) (by (repeat first | refine uA ?_ | (refine ⟨?_, ?_⟩; focus first | rfl | trivial | (simp [slot]; done)) | rfl | trivial | simp)) hν0)
    · have hmt : (Nm.E8 ((u.drop lo).take n)).length = m := by
        rw [<- ht]
        rcases Nat.eq_zero_or_pos m with h0 | h0
        · subst h0; simp [Nm.a6S]
        · have hcn : c ≠ 0 := by omega
          rw [hsn h0, Nm.a2T hcn, List.length_append, List.length_take, List.length_drop, List.length_singleton]
          omega
      rw [hmt]
      (repeat first | refine uA ?_ | (apply S.exit; exact rfl) | (refine uK ?_ ?_; focus first | omega | trivial | exact id | (intros; simp_all <;> omega)) | simp (disch := omega) only [go_sem, Nat.reduceBEq, Nat.reduceAdd, Nat.reduceLeDiff, Int.reduceToNat, Int.reducePow, ww])
      exact S.done (d9.own rfl)
theorem c0E {E : Ctx} (hP : E.P = Tryz.prog) (s : Bool) (u o : List Nat) (lo n lo2 n2 : Nat) (hl : u.length <= 274877906944) (hlo2 : o.length <= 274877906944) (hn : lo + n <= u.length) (hlo : lo < u.length) (hn2 : lo2 + n2 <= o.length) (hnn : n2 <= n)
  (hu : Nm.J3 u) (ho : Nm.J3 o) {X Y : Nat} (hX : X = Nm.wv 18446744073709551616 ((u.drop lo).take n)) (hY : Y = Nm.wv 18446744073709551616 ((o.drop lo2).take n2)) (hle : Y <= X) :
  p8 E (rw2 s u o) 242 [.wv (kx s) 1 lo n, .wv (kx !s) 1 lo2 n2] (.wv (kx s) 1 lo (Nm.E8 (Nm.dig 18446744073709551616 n (X - Y))).length) (rw2 s (put u lo (Nm.dig 18446744073709551616 n (X - Y))) o) [] := by
 obtain ⟨P, eff', N, w0, own0, av0, nu0, pk0⟩ := E
 simp only at hP
 subst hP
 have hul : ((u.drop lo).take n).length = n := by rw [List.length_take, List.length_drop]; omega
 have hol2 : ((o.drop lo2).take n2).length = n2 := by rw [List.length_take, List.length_drop]; omega
 have hua : Nm.J3 ((u.drop lo).take n) := (hu.drop lo).take _
 have hoa : Nm.J3 ((o.drop lo2).take n2) := (ho.drop lo2).take _
 have hps : put u lo ((u.drop lo).take n) = u := a3t hn
 have hgo2 : ∀ i, i < n2 -> o[lo2 + i]? = ((o.drop lo2).take n2)[i]? := fun i hi => by rw [List.getElem?_take_of_lt hi, List.getElem?_drop]
 generalize (u.drop lo).take n = x at *
 generalize (o.drop lo2).take n2 = y at *
 cases s
 all_goals
  refine p8.of (eff := eff) b3m b2k (by exact Nat.le_of_ble_eq_true rfl) fun w own av ν hν => ?_
  simp only [a6h, l5, TT, II, OA, OB, OC, MM, LL, VV, FF, MG, LG, VG, FG, rw2, kx, Bool.not_true, Bool.not_false]
  have hν0 : ν.length <= 2 := by rw [hν]; exact Nat.le_refl _
  (repeat first | refine uA ?_ | (apply S.exit; exact rfl) | (refine uK ?_ ?_; focus first | omega | trivial | exact id | (intros; simp_all <;> omega)) | simp (disch := omega) only [go_sem, Nat.reduceBEq, Nat.reduceAdd, Nat.reduceLeDiff, Int.reduceToNat, Int.reducePow, ww])
 ·refine S.loop (X := Nat × List Nat × Nat) (fun s => ⟨[(0, .wv 1 1 lo n), (1, .wv 0 1 lo2 n2), (5, .v (.int .u64 (s.2.2 : Int))), (8, .wv 1 1 lo n), (9, ints n), (10, ints s.1)], [.row 189 1 (ls o), .row 189 1 (ls (put u lo s.2.1))]⟩) (fun s => s.1 <= n /\ Nm.a2k x y s.1 s.2.1 s.2.2) (fun s => n - s.1) (0, x, 0) ⟨Nat.zero_le _, Nm.a5T y hua⟩ (by simp only [hps]; exact Ent.mk _ _ (by (repeat first | refine uA ?_ | (refine ⟨?_, ?_⟩; focus first | rfl | trivial | (simp [slot]; done)) | rfl | trivial | simp)) (by (repeat first | refine uA ?_ | (refine ⟨?_, ?_⟩; focus first | rfl | trivial | (simp [slot]; done)) | rfl | trivial | simp)) hν0) ?_
  rintro ⟨i, out, c⟩ ⟨hi, hinv⟩
  simp only [ints] at hi hinv ⊢
  have hol := hinv.1
  have hc1 := hinv.2.2.1
  have hpl : (put u lo out).length = u.length := X3 (by omega)
  (repeat first | refine uA ?_ | (apply S.exit; exact rfl) | (refine uK ?_ ?_; focus first | omega | trivial | exact id | (intros; simp_all <;> omega)) | simp (disch := omega) only [go_sem, Nat.reduceBEq, Nat.reduceAdd, Nat.reduceLeDiff, Int.reduceToNat, Int.reducePow, ww])
  (refine uJ rfl (fun hc => ?_) fun hc => ?_)
  ·have hi' : i < n := by omega
   have hix : i < x.length := by omega
   have hgx : x[i]? = some (x[i]'hix) := List.getElem?_eq_getElem hix
   have hgo : (put u lo out)[lo + i]? = some (x[i]'hix) := by rw [O3 (by omega) (by omega), Nm.Z4 hinv.2.2.2.1, hgx]
   have hx64 := hua _ (List.getElem_mem hix)
   have hk := fun t c' h1 h2 h3 => Nm.a5X (t := t) (c' := c') hinv hix h1 h2 h3
   generalize x[i]'hix = xi at *
   have hsub : ∀ d : Nat, d < 18446744073709551616 -> ∃ t c' : Nat, ((xi : Int) + 18446744073709551616 - (d : Int) - (c : Int)) % 18446744073709551616 = (t : Int) /\ (if (xi : Int) < (d : Int) + (c : Int) then (1 : Int) else 0) = (c' : Int) /\ t < 18446744073709551616 /\ c' <= 1 /\ t + c + d = xi + 18446744073709551616 * c' := fun d hd => by
    by_cases h : xi < d + c
    ·exact ⟨xi + 18446744073709551616 - d - c, 1, by omega, by rw [if_pos (by omega)]; rfl, by omega, by omega, by omega⟩
    ·exact ⟨xi - d - c, 0, by omega, by rw [if_neg (by omega)]; rfl, by omega, by omega, by omega⟩
   have hsl : ∀ t, (put u lo out).set (lo + i) t = put u lo (out.set i t) := fun t => X6 (by omega) (by omega)
   (repeat first | refine uA ?_ | (apply S.exit; exact rfl) | (refine uK ?_ ?_; focus first | omega | trivial | exact id | (intros; simp_all <;> omega)) | simp (disch := omega) only [go_sem, Nat.reduceBEq, Nat.reduceAdd, Nat.reduceLeDiff, Int.reduceToNat, Int.reducePow, ww, q8])
   (refine uJ rfl (fun hc => ?_) fun hc => ?_)
   ·have hiy : i < y.length := by omega
    have hgy : y[i]? = some (y[i]'hiy) := List.getElem?_eq_getElem hiy
    have hgy2 := (hgo2 i (by omega)).trans hgy
    have hy64 := hoa _ (List.getElem_mem hiy)
    rw [Nm.getD_lt hiy] at hk
    generalize y[i]'hiy = yi at *
    obtain ⟨t, c', e1, e2, h1, h2, h3⟩ := hsub yi hy64
    have hk := hk t c' h1 h2 h3
    (repeat first | refine uA ?_ | (apply S.exit; exact rfl) | (refine uK ?_ ?_; focus first | omega | trivial | exact id | (intros; simp_all <;> omega)) | simp (disch := omega) only [go_sem, Nat.reduceBEq, Nat.reduceAdd, Nat.reduceLeDiff, Int.reduceToNat, Int.reducePow, ww, q8, G5, hgo, hgy2, hpl, Option.map_some, lm, e1, e2, T9, hsl])
    refine S.next (x := (i, out, c)) (i + 1, _, _) ⟨hi', hk⟩ (by simp only; omega) (Ent.mk _ _ (by (repeat first | refine uA ?_ | (refine ⟨?_, ?_⟩; focus first | rfl | trivial | (simp [slot]; done)) | rfl | trivial | simp)) (by (repeat first | refine uA ?_ | (refine ⟨?_, ?_⟩; focus first | rfl | trivial | (simp [slot]; done)) | rfl | trivial | simp)) hν0)
   ·have hy0 : y.getD i 0 = 0 := by rw [List.getD_eq_getElem?_getD, List.getElem?_eq_none (by omega)]; rfl
    rw [hy0] at hk
    obtain ⟨t, c', e1, e2, h1, h2, h3⟩   := hsub 0 (by decide)
    rw [show ((0 : Nat) : Int) = 0 from rfl] at e1 e2
    have hk := hk t c' h1 h2 h3
    (repeat first | refine uA ?_ | (apply S.exit; exact rfl) | (refine uK ?_ ?_; focus first | omega | trivial | exact id | (intros; simp_all <;> omega)) | simp (disch := omega) only [go_sem, Nat.reduceBEq, Nat.reduceAdd, Nat.reduceLeDiff, Int.reduceToNat, Int.reducePow, ww, q8, G5, hgo, hpl, Option.map_some, lm, e1, e2, T9, hsl])
    refine S.next (x := (i, out, c)) (i + 1, _, _) ⟨hi', hk⟩ (by simp only; omega) (Ent.mk _ _ (by (repeat first | refine uA ?_ | (refine ⟨?_, ?_⟩; focus first | rfl | trivial | (simp [slot]; done)) | rfl | trivial | simp)) (by (repeat first | refine uA ?_ | (refine ⟨?_, ?_⟩; focus first | rfl | trivial | (simp [slot]; done)) | rfl | trivial | simp)) hν0)
  ·have hi' : i = n := by omega
   subst hi'
   rw [<- hul] at hinv
   obtain ⟨he1, he2⟩ := Nm.a6D hinv (by omega) (by omega)
   have hd : out = Nm.dig 18446744073709551616 i (X - Y) := Nm.R6 (by decide) hinv.2.1 (by omega) (by omega)
   rw [<- hd]
   have hcut := fun (E : Ctx) (hP : E.P = Tryz.prog) => a7h (E := E) hP (match 1 with | 0 => true | _ => false) (put u lo out) o lo i (by omega) (by omega) (by omega)
   rw [a1x (by omega) (by omega)] at hcut
   (repeat first | refine uA ?_ | (apply S.exit; exact rfl) | (refine uK ?_ ?_; focus first | omega | trivial | exact id | (intros; simp_all <;> omega)) | simp (disch := omega) only [go_sem, Nat.reduceBEq, Nat.reduceAdd, Nat.reduceLeDiff, Int.reduceToNat, Int.reducePow, ww] | refine q9.t (hcut _ rfl) ?_)
   exact S.done (d9.own rfl)
 ·refine S.loop (X := Nat × List Nat × Nat) (fun s => ⟨[(0, .wv 0 1 lo n), (1, .wv 1 1 lo2 n2), (5, .v (.int .u64 (s.2.2 : Int))), (8, .wv 0 1 lo n), (9, ints n), (10, ints s.1)], [.row 189 1 (ls (put u lo s.2.1)), .row 189 1 (ls o)]⟩) (fun s => s.1 <= n /\ Nm.a2k x y s.1 s.2.1 s.2.2) (fun s => n - s.1) (0, x, 0) ⟨Nat.zero_le _, Nm.a5T y hua⟩ (by simp only [hps]; exact Ent.mk _ _ (by (repeat first | refine uA ?_ | (refine ⟨?_, ?_⟩; focus first | rfl | trivial | (simp [slot]; done)) | rfl | trivial | simp)) (by (repeat first | refine uA ?_ | (refine ⟨?_, ?_⟩; focus first | rfl | trivial | (simp [slot]; done)) | rfl | trivial | simp)) hν0) ?_
  rintro ⟨i, out, c⟩ ⟨hi, hinv⟩
  simp only [ints] at hi hinv ⊢
  have hol := hinv.1
  have hc1 := hinv.2.2.1
  have hpl : (put u lo out).length = u.length := X3 (by omega)
  (repeat first | refine uA ?_ | (apply S.exit; exact rfl) | (refine uK ?_ ?_; focus first | omega | trivial | exact id | (intros; simp_all <;> omega)) | simp (disch := omega) only [go_sem, Nat.reduceBEq, Nat.reduceAdd, Nat.reduceLeDiff, Int.reduceToNat, Int.reducePow, ww])
  (refine uJ rfl (fun hc => ?_) fun hc => ?_)
  ·have hi' : i < n := by omega
   have hix : i < x.length := by omega
   have hgx : x[i]? = some (x[i]'hix) := List.getElem?_eq_getElem hix
   have hgo : (put u lo out)[lo + i]? = some (x[i]'hix) := by rw [O3 (by omega) (by omega), Nm.Z4 hinv.2.2.2.1, hgx]
   have hx64 := hua _ (List.getElem_mem hix)
   have hk := fun t c' h1 h2 h3 => Nm.a5X (t := t) (c' := c') hinv hix h1 h2 h3
   generalize x[i]'hix = xi at *
   have hsub : ∀ d : Nat, d < 18446744073709551616 -> ∃ t c' : Nat, ((xi : Int) + 18446744073709551616 - (d : Int) - (c : Int)) % 18446744073709551616 = (t : Int) /\ (if (xi : Int) < (d : Int) + (c : Int) then (1 : Int) else 0) = (c' : Int) /\ t < 18446744073709551616 /\ c' <= 1 /\ t + c + d = xi + 18446744073709551616 * c' := fun d hd => by
    by_cases h : xi < d + c
    ·exact ⟨xi + 18446744073709551616 - d - c, 1, by omega, by rw [if_pos (by omega)]; rfl, by omega, by omega, by omega⟩
    ·exact ⟨xi - d - c, 0, by omega, by rw [if_neg (by omega)]; rfl, by omega, by omega, by omega⟩
   have hsl : ∀ t, (put u lo out).set (lo + i) t = put u lo (out.set i t) := fun t => X6 (by omega) (by omega)
   (repeat first | refine uA ?_ | (apply S.exit; exact rfl) | (refine uK ?_ ?_; focus first | omega | trivial | exact id | (intros; simp_all <;> omega)) | simp (disch := omega) only [go_sem, Nat.reduceBEq, Nat.reduceAdd, Nat.reduceLeDiff, Int.reduceToNat, Int.reducePow, ww, q8])
   (refine uJ rfl (fun hc => ?_) fun hc => ?_)
   ·have hiy : i < y.length := by omega
    have hgy : y[i]? = some (y[i]'hiy) := List.getElem?_eq_getElem hiy
    have hgy2 := (hgo2 i (by omega)).trans hgy
    have hy64 := hoa _ (List.getElem_mem hiy)
    rw [Nm.getD_lt hiy] at hk
    generalize y[i]'hiy = yi at *
    obtain ⟨t, c', e1, e2, h1, h2, h3⟩ := hsub yi hy64
    have hk := hk t c' h1 h2 h3
    (repeat first | refine uA ?_ | (apply S.exit; exact rfl) | (refine uK ?_ ?_; focus first | omega | trivial | exact id | (intros; simp_all <;> omega)) | simp (disch := omega) only [go_sem, Nat.reduceBEq, Nat.reduceAdd, Nat.reduceLeDiff, Int.reduceToNat, Int.reducePow, ww, q8, G5, hgo, hgy2, hpl, Option.map_some, lm, e1, e2, T9, hsl])
    refine S.next (x := (i, out, c)) (i + 1, _, _) ⟨hi', hk⟩ (by simp only; omega) (Ent.mk _ _ (by (repeat first | refine uA ?_ | (refine ⟨?_, ?_⟩; focus first | rfl | trivial | (simp [slot]; done)) | rfl | trivial | simp)) (by (repeat first | refine uA ?_ | (refine ⟨?_, ?_⟩; focus first | rfl | trivial | (simp [slot]; done)) | rfl | trivial | simp)) hν0)
   ·have hy0 : y.getD i 0 = 0 := by rw [List.getD_eq_getElem?_getD, List.getElem?_eq_none (by omega)]; rfl
    rw [hy0] at hk
    obtain ⟨t, c', e1, e2, h1, h2, h3⟩   := hsub 0 (by decide)
    rw [show ((0 : Nat) : Int) = 0 from rfl] at e1 e2
    have hk := hk t c' h1 h2 h3
    (repeat first | refine uA ?_ | (apply S.exit; exact rfl) | (refine uK ?_ ?_; focus first | omega | trivial | exact id | (intros; simp_all <;> omega)) | simp (disch := omega) only [go_sem, Nat.reduceBEq, Nat.reduceAdd, Nat.reduceLeDiff, Int.reduceToNat, Int.reducePow, ww, q8, G5, hgo, hpl, Option.map_some, lm, e1, e2, T9, hsl])
    refine S.next (x := (i, out, c)) (i + 1, _, _) ⟨hi', hk⟩ (by simp only; omega) (Ent.mk _ _ (by (repeat first | refine uA ?_ | (refine ⟨?_, ?_⟩; focus first | rfl | trivial | (simp [slot]; done)) | rfl | trivial | simp)) (by (repeat first | refine uA ?_ | (refine ⟨?_, ?_⟩; focus first | rfl | trivial | (simp [slot]; done)) | rfl | trivial | simp)) hν0)
  ·have hi' : i = n := by omega
   subst hi'
   rw [<- hul] at hinv
   obtain ⟨he1, he2⟩ := Nm.a6D hinv (by omega) (by omega)
   have hd : out = Nm.dig 18446744073709551616 i (X - Y) := Nm.R6 (by decide) hinv.2.1 (by omega) (by omega)
   rw [<- hd]
   have hcut := fun (E : Ctx) (hP : E.P = Tryz.prog) => a7h (E := E) hP (match 0 with | 0 => true | _ => false) (put u lo out) o lo i (by omega) (by omega) (by omega)
   rw [a1x (by omega) (by omega)] at hcut
   (repeat first | refine uA ?_ | (apply S.exit; exact rfl) | (refine uK ?_ ?_; focus first | omega | trivial | exact id | (intros; simp_all <;> omega)) | simp (disch := omega) only [go_sem, Nat.reduceBEq, Nat.reduceAdd, Nat.reduceLeDiff, Int.reduceToNat, Int.reducePow, ww] | refine q9.t (hcut _ rfl) ?_)
   exact S.done (d9.own rfl)
theorem c2r (i : Nat) (h : i <= 70368744177664) : IntKind.i64.wrap ((i : Int).tdiv 64) = ((i / 64 : Nat) : Int) := by
 have : (i : Int).tdiv 64 = ((i / 64 : Nat) : Int) := rfl
 rw [this, Eng.wrap_i64 (by omega)]
theorem c1i (i : Nat) : (i : Int).tmod 64 = ((i % 64 : Nat) : Int) := rfl
theorem b2w (o n : Nat) (ho : o < 18446744073709551616) : bits .or .u64 (o : Int) (((n % 18446744073709551616 : Nat)) : Int) = ((o ||| n % 18446744073709551616 : Nat) : Int) := a9i _ _ ho (Nat.mod_lt _ (by decide))
theorem b0P (x r : Nat) (hr : r <= 64) : IntKind.u64.wrap ((x : Int) * 2 ^ min r 64) = ((x * 2 ^ r % 18446744073709551616 : Nat) : Int) := by
 rw [show min r 64 = r by omega, <- a3I]; congr 1
theorem a7q {E : Ctx} (hP : E.P = Tryz.prog) (s : Bool) (u o : List Nat) (lo n by' z : Nat) (hl : u.length <= 274877906944) (hn : lo + n <= u.length) (hb : by' <= 70368744177664)
  (hu : Nm.J3 u) (hz : z ≠ 0) (hX : Nm.wv 18446744073709551616 ((u.drop lo).take n) = z * 2 ^ by') :
  by' / 64 < n /\ z < 18446744073709551616 ^ (n - by' / 64) /\ p8 E (rw2 s u o) 240 [.wv (kx s) 1 lo n, ints by'] (.wv (kx s) 1 (lo + by' / 64) (Nm.E8 (Nm.dig 18446744073709551616 (n - by' / 64) z)).length) (rw2 s (put u (lo + by' / 64) (Nm.dig 18446744073709551616 (n - by' / 64) z)) o) [] := by
 have hul : ((u.drop lo).take n).length = n := by rw [List.length_take, List.length_drop]; omega
 have hua : Nm.J3 ((u.drop lo).take n) := (hu.drop lo).take _
 have e2 : 2 ^ by' = 18446744073709551616 ^ (by' / 64) * 2 ^ (by' % 64) := by
  rw [show (18446744073709551616 : Nat) = 2 ^ 64 by decide, <- Nat.pow_mul, <- Nat.pow_add]; congr 1; omega
 have hjn : by' / 64 < n := by
  rcases Nat.lt_or_ge (by' / 64) n with h | h
  ·exact h
  ·exfalso
   have h1 := Nm.I7 18446744073709551616 hua
   have h2 : 18446744073709551616 ^ n <= 18446744073709551616 ^ (by' / 64) := Nat.pow_le_pow_right (by decide) h
   have h3 : 18446744073709551616 ^ (by' / 64) <= 2 ^ by' := by rw [e2]; exact Nat.le_mul_of_pos_right _ (Nat.pow_pos (by decide))
   have h4 : 2 ^ by' <= z * 2 ^ by' := Nat.le_mul_of_pos_left _ (by omega)
   rw [hul] at h1
   omega
 have hdr : ((u.drop lo).take n).drop (by' / 64) = (u.drop (lo + by' / 64)).take (n - by' / 64) := by
  rw [List.drop_take, List.drop_drop]
 have hW1 : Nm.wv 18446744073709551616 ((u.drop (lo + by' / 64)).take (n - by' / 64)) = z * 2 ^ (by' % 64) := by
  rw [<- hdr, Nm.b5t hua (by omega), hX, e2, <- Nat.mul_assoc, Nat.mul_comm z, Nat.mul_assoc, Nat.mul_comm (18446744073709551616 ^ _) (z * _), Nat.mul_div_cancel _ (Nat.pow_pos (by decide))]
 have hb64 : by' % 64 < 64 := Nat.mod_lt _ (by decide)
 have hjb : by' / 64 <= 1099511627776 := by omega
 clear hdr hX e2
 have hq1 := c2r by' hb
 have hq2 := c1i by'
 generalize by' / 64 = j at *
 generalize by' % 64 = b at *
 generalize hp : n - j = p at *
 generalize hl1 : lo + j = l1 at *
 have hlp : l1 + p <= u.length := by omega
 have hp0 : 0 < p := by omega
 have hpn : n - j = p := hp
 have hua1 : Nm.J3 ((u.drop l1).take p) := (hu.drop l1).take _
 have hps : put u l1 ((u.drop l1).take p) = u := a3t hlp
 have hrl : ((u.drop l1).take p).length = p := by rw [List.length_take, List.length_drop]; omega
 generalize (u.drop l1).take p = r0 at *
 have hzl : z < 18446744073709551616 ^ p := by
  have h1 := Nm.I7 18446744073709551616 hua1
  rw [hrl, hW1] at h1
  exact Nat.lt_of_le_of_lt (Nat.le_mul_of_pos_right _ (Nat.pow_pos (by decide))) h1
 refine ⟨hjn, hzl, ?_⟩
 clear hul hua
 obtain ⟨P, eff', N, w0, own0, av0, nu0, pk0⟩ := E
 simp only at hP
 subst hP
 cases s
 all_goals
  refine p8.of (eff := eff) b3p b3d (by exact Nat.le_of_ble_eq_true rfl) fun w own av ν hν => ?_
  simp only [a6x, l5, TT, II, OA, OB, OC, MM, LL, VV, FF, MG, LG, VG, FG, rw2, kx, ints]
  have hν0 : ν.length <= 2 := by rw [hν]; exact Nat.le_refl _
  (repeat first | refine uA ?_ | (apply S.exit; exact rfl) | (refine uK ?_ ?_; focus first | omega | trivial | exact id | (intro h; rw [h]; rfl) | (intro h h2; rw [h, h2]; rfl) | (intro h; (try simp at h); omega) | (intros; simp_all <;> omega)) | simp only [go_sem, Nat.reduceBEq, Nat.reduceAdd, Nat.reduceLeDiff, Int.reduceToNat, Int.reducePow, hq1, hq2, q8, hl1, hpn] | simp (disch := omega) only [ww, hq1, hq2, q8, hl1, hpn])
  (refine uJ rfl (fun hc => ?_) fun hc => ?_)
 ·(repeat first | refine uA ?_ | (apply S.exit; exact rfl) | (refine uK ?_ ?_; focus first | omega | trivial | exact id | (intro h; rw [h]; rfl) | (intro h h2; rw [h, h2]; rfl) | (intro h; (try simp at h); omega) | (intros; simp_all <;> omega)) | simp only [go_sem, Nat.reduceBEq, Nat.reduceAdd, Nat.reduceLeDiff, Int.reduceToNat, Int.reducePow] | simp (disch := omega) only [ww])
  refine S.loop (X := Nat × List Nat) (fun s => ⟨[(0, .wv 1 1 l1 p), (1, ints b), (15, ints p), (16, ints s.1)], [.row 189 1 (ls o), .row 189 1 (ls (put u l1 s.2))]⟩) (fun s => s.1 <= p /\ Nm.a0Y r0 (2 ^ b) s.1 s.2) (fun s => p - s.1) (0, r0) ⟨Nat.zero_le _, Nm.a4f hua1⟩ (by simp only [hps]; exact Ent.mk _ _ (by (repeat first | refine uA ?_ | (refine ⟨?_, ?_⟩; focus first | rfl | trivial | (simp [slot]; done)) | rfl | trivial | simp)) (by (repeat first | refine uA ?_ | (refine ⟨?_, ?_⟩; focus first | rfl | trivial | (simp [slot]; done)) | rfl | trivial | simp)) hν0) ?_
  rintro ⟨i, out⟩ ⟨hi, hri⟩
  simp only [ints] at hi hri ⊢
  have hol := hri.1
  have hpl : (put u l1 out).length = u.length := X3 (by omega)
  (repeat first | refine uA ?_ | (apply S.exit; exact rfl) | (refine uK ?_ ?_; focus first | omega | trivial | exact id | (intro h; rw [h]; rfl) | (intro h h2; rw [h, h2]; rfl) | (intro h; (try simp at h); omega) | (intros; simp_all <;> omega)) | simp only [go_sem, Nat.reduceBEq, Nat.reduceAdd, Nat.reduceLeDiff, Int.reduceToNat, Int.reducePow] | simp (disch := omega) only [ww])
  (refine uJ rfl (fun hc => ?_) fun hc => ?_)
  ·have hi' : i < p := by omega
   have hir : i < r0.length := by omega
   have hgr : r0[i]? = some (r0[i]'hir) := List.getElem?_eq_getElem hir
   have hgo : (put u l1 out)[l1 + i]? = some (r0[i]'hir) := by
    rw [O3 (by omega) (by omega), Nm.Z4 hri.2.2.1, hgr]
   have hr32' := hua1 _ (List.getElem_mem hir)
   have hk := fun t ht => Nm.a4c (t := t) hri hb64 hir hua1 ht
   have hset : ∀ a, (put u l1 out).set (l1 + i) a = put u l1 (out.set i a) := fun a => X6 (by omega) (by omega)
   generalize r0[i]'hir = ri at *
   have hsh : Int.fdiv (ri : Int) (2 ^ min b 64) = ((ri / 2 ^ b : Nat) : Int) := by
    rw [show min b 64 = b by omega, <- a1r]; congr 1
   have hrb : ri / 2 ^ b < 18446744073709551616 := Nat.lt_of_le_of_lt (Nat.div_le_self _ _) hr32'
   generalize ri / 2 ^ b = rs at *
   (repeat first | refine uA ?_ | (apply S.exit; exact rfl) | (refine uK ?_ ?_; focus first | omega | trivial | exact id | (intro h; rw [h]; rfl) | (intro h h2; rw [h, h2]; rfl) | (intro h; (try simp at h); omega) | (intros; simp_all <;> omega)) | simp only [go_sem, Nat.reduceBEq, Nat.reduceAdd, Nat.reduceLeDiff, Int.reduceToNat, Int.reducePow, q8, G5, hgo, hpl, Option.map_some, lm, T9, hsh, hset] | simp (disch := omega) only [ww, q8, G5, hgo, hpl, Option.map_some, lm, T9, hsh, hset])
   (refine uJ rfl (fun hc => ?_) fun hc => ?_)
   ·have hi1 : i + 1 < r0.length := by omega
    have hpl1 : (put u l1 (out.set i rs)).length = u.length := X3 (by rw [List.length_set]; omega)
    have hg1 : (put u l1 (out.set i rs))[l1 + i]? = some rs := by
     rw [<- hset, List.getElem?_set_self (by omega)]
    have hg3 : r0[i + 1]? = some (r0[i + 1]'hi1) := List.getElem?_eq_getElem hi1
    have hg2 : (put u l1 (out.set i rs))[l1 + (i + 1)]? = some (r0[i + 1]'hi1) := by
     have := O3 (us := u) (out := out) (k := l1) (i := i + 1) (by omega) (by omega)
     rw [<- hset, List.getElem?_set_ne (by omega), this]
     have h3 := congrArg (fun l => l[1]?) hri.2.2.1
     simp only [List.getElem?_drop] at h3
     rw [h3, hg3]
    have hn32 := hua1 _ (List.getElem_mem hi1)
    have hgd : r0.getD (i + 1) 0 = r0[i + 1]'hi1 := Nm.getD_lt hi1
    rw [hgd] at hk
    generalize r0[i + 1]'hi1 = rn at *
    have hshl := b0P rn (64 - b) (by omega)
    have hrr : ((64 : Int) - (b : Int)).toNat = 64 - b := by omega
    have horl := b2w rs (rn * 2 ^ (64 - b)) hrb
    have hk := hk _ rfl
    rw [if_pos (by omega)] at hk
    generalize rn * 2 ^ (64 - b) = sh at *
    generalize hto : rs ||| sh % 18446744073709551616 = to at *
    have hset2 : (put u l1 (out.set i rs)).set (l1 + i) to = put u l1 (out.set i to) := by
     have := X6 (us := u) (out := out.set i rs) (k := l1) (i := i) (v := to) (by rw [List.length_set]; omega) (by rw [List.length_set]; omega)
     rwa [List.set_set] at this
    have hi1n : ((i : Int) + 1).toNat = i + 1 := by omega
    (repeat first | refine uA ?_ | (apply S.exit; exact rfl) | (refine uK ?_ ?_; focus first | omega | trivial | exact id | (intro h; rw [h]; rfl) | (intro h h2; rw [h, h2]; rfl) | (intro h; (try simp at h); omega) | (intros; simp_all <;> omega)) | simp only [go_sem, Nat.reduceBEq, Nat.reduceAdd, Nat.reduceLeDiff, Int.reduceToNat, Int.reducePow, q8, G5, hg1, hg2, hpl1, Option.map_some, lm, hrr, hi1n, hshl, horl, T9, hset2] | simp (disch := omega) only [ww, q8, G5, hg1, hg2, hpl1, Option.map_some, lm, hrr, hi1n, hshl, horl, T9, hset2])
    refine S.next (x := (i, out)) (i + 1, _) ⟨hi', hk.1⟩ (by simp only; omega) (Ent.mk _ _ (by (repeat first | refine uA ?_ | (refine ⟨?_, ?_⟩; focus first | rfl | trivial | (simp [slot]; done)) | rfl | trivial | simp)) (by (repeat first | refine uA ?_ | (refine ⟨?_, ?_⟩; focus first | rfl | trivial | (simp [slot]; done)) | rfl | trivial | simp)) hν0)
   ·have hk := hk _ rfl
    rw [if_neg (by omega)] at hk
    (repeat first | refine uA ?_ | (apply S.exit; exact rfl) | (refine uK ?_ ?_; focus first | omega | trivial | exact id | (intro h; rw [h]; rfl) | (intro h h2; rw [h, h2]; rfl) | (intro h; (try simp at h); omega) | (intros; simp_all <;> omega)) | simp only [go_sem, Nat.reduceBEq, Nat.reduceAdd, Nat.reduceLeDiff, Int.reduceToNat, Int.reducePow] | simp (disch := omega) only [ww])
    refine S.next (x := (i, out)) (i + 1, _) ⟨hi', hk.1⟩ (by simp only; omega) (Ent.mk _ _ (by (repeat first | refine uA ?_ | (refine ⟨?_, ?_⟩; focus first | rfl | trivial | (simp [slot]; done)) | rfl | trivial | simp)) (by (repeat first | refine uA ?_ | (refine ⟨?_, ?_⟩; focus first | rfl | trivial | (simp [slot]; done)) | rfl | trivial | simp)) hν0)
  ·have hi' : i = p := by omega
   subst hi'
   rw [<- hrl] at hri
   have he := Nm.a5e hri (by omega) hW1
   have hd : out = Nm.dig 18446744073709551616 i z := Nm.R6 (by decide) hri.2.1 (by omega) he
   rw [<- hd]
   have hcut := fun (E : Ctx) (hP : E.P = Tryz.prog) => a7h (E := E) hP (match 1 with | 0 => true | _ => false) (put u l1 out) o l1 i (by omega) (by omega) (by omega)
   rw [a1x (by omega) (by omega)] at hcut
   (repeat first | refine uA ?_ | (apply S.exit; exact rfl) | (refine uK ?_ ?_; focus first | omega | trivial | exact id | (intro h; rw [h]; rfl) | (intro h h2; rw [h, h2]; rfl) | (intro h; (try simp at h); omega) | (intros; simp_all <;> omega)) | simp only [go_sem, Nat.reduceBEq, Nat.reduceAdd, Nat.reduceLeDiff, Int.reduceToNat, Int.reducePow] | simp (disch := omega) only [ww] | refine q9.t (hcut _ rfl) ?_)
   exact S.done (d9.own rfl)
 ·have hb0 : b = 0 := by omega
  subst hb0
  rw [Nat.pow_zero, Nat.mul_one] at hW1
  have hd : r0 = Nm.dig 18446744073709551616 p z := Nm.R6 (by decide) hua1 hrl hW1
  have hcut := fun (E : Ctx) (hP : E.P = Tryz.prog) => a7h (E := E) hP (match 1 with | 0 => true | _ => false) u o l1 p (by omega) (by omega) (by omega)
  have hw : (u.drop l1).take p = r0 := by rw [<- hps]; exact a1x hrl.symm (by omega)
  rw [hw] at hcut
  rw [<- hd, hps]
  (repeat first | refine uA ?_ | (apply S.exit; exact rfl) | (refine uK ?_ ?_; focus first | omega | trivial | exact id | (intro h; rw [h]; rfl) | (intro h h2; rw [h, h2]; rfl) | (intro h; (try simp at h); omega) | (intros; simp_all <;> omega)) | simp only [go_sem, Nat.reduceBEq, Nat.reduceAdd, Nat.reduceLeDiff, Int.reduceToNat, Int.reducePow] | simp (disch := omega) only [ww] | refine q9.t (hcut _ rfl) ?_)
  exact S.done (d9.own rfl)
 ·(repeat first | refine uA ?_ | (apply S.exit; exact rfl) | (refine uK ?_ ?_; focus first | omega | trivial | exact id | (intro h; rw [h]; rfl) | (intro h h2; rw [h, h2]; rfl) | (intro h; (try simp at h); omega) | (intros; simp_all <;> omega)) | simp only [go_sem, Nat.reduceBEq, Nat.reduceAdd, Nat.reduceLeDiff, Int.reduceToNat, Int.reducePow] | simp (disch := omega) only [ww])
  refine S.loop (X := Nat × List Nat) (fun s => ⟨[(0, .wv 0 1 l1 p), (1, ints b), (15, ints p), (16, ints s.1)], [.row 189 1 (ls (put u l1 s.2)), .row 189 1 (ls o)]⟩) (fun s => s.1 <= p /\ Nm.a0Y r0 (2 ^ b) s.1 s.2) (fun s => p - s.1) (0, r0) ⟨Nat.zero_le _, Nm.a4f hua1⟩ (by simp only [hps]; exact Ent.mk _ _ (by (repeat first | refine uA ?_ | (refine ⟨?_, ?_⟩; focus first | rfl | trivial | (simp [slot]; done)) | rfl | trivial | simp)) (by (repeat first | refine uA ?_ | (refine ⟨?_, ?_⟩; focus first | rfl | trivial | (simp [slot]; done)) | rfl | trivial | simp)) hν0) ?_
  rintro ⟨i, out⟩ ⟨hi, hri⟩
  simp only [ints] at hi hri ⊢
  have hol := hri.1
  have hpl : (put u l1 out).length = u.length := X3 (by omega)
  (repeat first | refine uA ?_ | (apply S.exit; exact rfl) | (refine uK ?_ ?_; focus first | omega | trivial | exact id | (intro h; rw [h]; rfl) | (intro h h2; rw [h, h2]; rfl) | (intro h; (try simp at h); omega) | (intros; simp_all <;> omega)) | simp only [go_sem, Nat.reduceBEq, Nat.reduceAdd, Nat.reduceLeDiff, Int.reduceToNat, Int.reducePow] | simp (disch := omega) only [ww])
  (refine uJ rfl (fun hc => ?_) fun hc => ?_)
  ·have hi' : i < p := by omega
   have hir : i < r0.length := by omega
   have hgr : r0[i]? = some (r0[i]'hir) := List.getElem?_eq_getElem hir
   have hgo : (put u l1 out)[l1 + i]? = some (r0[i]'hir) := by
    rw [O3 (by omega) (by omega), Nm.Z4 hri.2.2.1, hgr]
   have hr32' := hua1 _ (List.getElem_mem hir)
   have hk := fun t ht => Nm.a4c (t := t) hri hb64 hir hua1 ht
   have hset : ∀ a, (put u l1 out).set (l1 + i) a = put u l1 (out.set i a) := fun a => X6 (by omega) (by omega)
   generalize r0[i]'hir = ri at *
   have hsh : Int.fdiv (ri : Int) (2 ^ min b 64) = ((ri / 2 ^ b : Nat) : Int) := by
    rw [show min b 64 = b by omega, <- a1r]; congr 1
   have hrb : ri / 2 ^ b < 18446744073709551616 := Nat.lt_of_le_of_lt (Nat.div_le_self _ _) hr32'
   generalize ri / 2 ^ b = rs at *
   (repeat first | refine uA ?_ | (apply S.exit; exact rfl) | (refine uK ?_ ?_; focus first | omega | trivial | exact id | (intro h; rw [h]; rfl) | (intro h h2; rw [h, h2]; rfl) | (intro h; (try simp at h); omega) | (intros; simp_all <;> omega)) | simp only [go_sem, Nat.reduceBEq, Nat.reduceAdd, Nat.reduceLeDiff, Int.reduceToNat, Int.reducePow, q8, G5, hgo, hpl, Option.map_some, lm, T9, hsh, hset] | simp (disch := omega) only [ww, q8, G5, hgo, hpl, Option.map_some, lm, T9, hsh, hset])
   (refine uJ rfl (fun hc => ?_) fun hc => ?_)
   ·have hi1 : i + 1 < r0.length := by omega
    have hpl1 : (put u l1 (out.set i rs)).length = u.length := X3 (by rw [List.length_set]; omega)
    have hg1 : (put u l1 (out.set i rs))[l1 + i]? = some rs := by
     rw [<- hset, List.getElem?_set_self (by omega)]
    have hg3 : r0[i + 1]? = some (r0[i + 1]'hi1) := List.getElem?_eq_getElem hi1
    have hg2 : (put u l1 (out.set i rs))[l1 + (i + 1)]? = some (r0[i + 1]'hi1) := by
     have := O3 (us := u) (out := out) (k := l1) (i := i + 1) (by omega) (by omega)
     rw [<- hset, List.getElem?_set_ne (by omega), this]
     have h3 := congrArg (fun l => l[1]?) hri.2.2.1
     simp only [List.getElem?_drop] at h3
     rw [h3, hg3]
    have hn32 := hua1 _ (List.getElem_mem hi1)
    have hgd : r0.getD (i + 1) 0 = r0[i + 1]'hi1 := Nm.getD_lt hi1
    rw [hgd] at hk
    generalize r0[i + 1]'hi1 = rn at *
    have hshl := b0P rn (64 - b) (by omega)
    have hrr : ((64 : Int) - (b : Int)).toNat = 64 - b := by omega
    have horl := b2w rs (rn * 2 ^ (64 - b)) hrb
    have hk := hk _ rfl
    rw [if_pos (by omega)] at hk
    generalize rn * 2 ^ (64 - b) = sh at *
    generalize hto : rs ||| sh % 18446744073709551616 = to at *
    have hset2 : (put u l1 (out.set i rs)).set (l1 + i) to = put u l1 (out.set i to) := by
     have := X6 (us := u) (out := out.set i rs) (k := l1) (i := i) (v := to) (by rw [List.length_set]; omega) (by rw [List.length_set]; omega)
     rwa [List.set_set] at this
    have hi1n : ((i : Int) + 1).toNat = i + 1 := by omega
    (repeat first | refine uA ?_ | (apply S.exit; exact rfl) | (refine uK ?_ ?_; focus first | omega | trivial | exact id | (intro h; rw [h]; rfl) | (intro h h2; rw [h, h2]; rfl) | (intro h; (try simp at h); omega) | (intros; simp_all <;> omega)) | simp only [go_sem, Nat.reduceBEq, Nat.reduceAdd, Nat.reduceLeDiff, Int.reduceToNat, Int.reducePow, q8, G5, hg1, hg2, hpl1, Option.map_some, lm, hrr, hi1n, hshl, horl, T9, hset2] | simp (disch := omega) only [ww, q8, G5, hg1, hg2, hpl1, Option.map_some, lm, hrr, hi1n, hshl, horl, T9, hset2])
    refine S.next (x := (i, out)) (i + 1, _) ⟨hi', hk.1⟩ (by simp only; omega) (Ent.mk _ _ (by (repeat first | refine uA ?_ | (refine ⟨?_, ?_⟩; focus first | rfl | trivial | (simp [slot]; done)) | rfl | trivial | simp)) (by (repeat first | refine uA ?_ | (refine ⟨?_, ?_⟩; focus first | rfl | trivial | (simp [slot]; done)) | rfl | trivial | simp)) hν0)
   ·have hk := hk _ rfl
    rw [if_neg (by omega)] at hk
    (repeat first | refine uA ?_ | (apply S.exit; exact rfl) | (refine uK ?_ ?_; focus first | omega | trivial | exact id | (intro h; rw [h]; rfl) | (intro h h2; rw [h, h2]; rfl) | (intro h; (try simp at h); omega) | (intros; simp_all <;> omega)) | simp only [go_sem, Nat.reduceBEq, Nat.reduceAdd, Nat.reduceLeDiff, Int.reduceToNat, Int.reducePow] | simp (disch := omega) only [ww])
    refine S.next (x := (i, out)) (i + 1, _) ⟨hi', hk.1⟩ (by simp only; omega) (Ent.mk _ _ (by (repeat first | refine uA ?_ | (refine ⟨?_, ?_⟩; focus first | rfl | trivial | (simp [slot]; done)) | rfl | trivial | simp)) (by (repeat first | refine uA ?_ | (refine ⟨?_, ?_⟩; focus first | rfl | trivial | (simp [slot]; done)) | rfl | trivial | simp)) hν0)
  ·have hi' : i = p := by omega
   subst hi'
   rw [<- hrl] at hri
   have he := Nm.a5e hri (by omega) hW1
   have hd : out = Nm.dig 18446744073709551616 i z := Nm.R6 (by decide) hri.2.1 (by omega) he
   rw [<- hd]
   have hcut := fun (E : Ctx) (hP : E.P = Tryz.prog) => a7h (E := E) hP (match 0 with | 0 => true | _ => false) (put u l1 out) o l1 i (by omega) (by omega) (by omega)
   rw [a1x (by omega) (by omega)] at hcut
   (repeat first | refine uA ?_ | (apply S.exit; exact rfl) | (refine uK ?_ ?_; focus first | omega | trivial | exact id | (intro h; rw [h]; rfl) | (intro h h2; rw [h, h2]; rfl) | (intro h; (try simp at h); omega) | (intros; simp_all <;> omega)) | simp only [go_sem, Nat.reduceBEq, Nat.reduceAdd, Nat.reduceLeDiff, Int.reduceToNat, Int.reducePow] | simp (disch := omega) only [ww] | refine q9.t (hcut _ rfl) ?_)
   exact S.done (d9.own rfl)
 ·have hb0 : b = 0 := by omega
  subst hb0
  rw [Nat.pow_zero, Nat.mul_one] at hW1
  have hd : r0 = Nm.dig 18446744073709551616 p z := Nm.R6 (by decide) hua1 hrl hW1
  have hcut := fun (E : Ctx) (hP : E.P = Tryz.prog) => a7h (E := E) hP (match 0 with | 0 => true | _ => false) u o l1 p (by omega) (by omega) (by omega)
  have hw : (u.drop l1).take p = r0 := by rw [<- hps]; exact a1x hrl.symm (by omega)
  rw [hw] at hcut
  rw [<- hd, hps]
  (repeat first | refine uA ?_ | (apply S.exit; exact rfl) | (refine uK ?_ ?_; focus first | omega | trivial | exact id | (intro h; rw [h]; rfl) | (intro h h2; rw [h, h2]; rfl) | (intro h; (try simp at h); omega) | (intros; simp_all <;> omega)) | simp only [go_sem, Nat.reduceBEq, Nat.reduceAdd, Nat.reduceLeDiff, Int.reduceToNat, Int.reducePow] | simp (disch := omega) only [ww] | refine q9.t (hcut _ rfl) ?_)
  exact S.done (d9.own rfl)
end Go.Proofs.YtogfpjohjphngaaGreatDoor
