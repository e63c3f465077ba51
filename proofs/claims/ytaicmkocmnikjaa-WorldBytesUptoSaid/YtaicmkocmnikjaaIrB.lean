/- The intermediate forms of functions of the program, printed by a program of mine; each is checked against the loaded function. -/
import Derived.Test.YtaicmkocmnikjaaCtl
import Derived.Test.YtaicmkocmnikjaaProg
import Derived.KernelRfl
namespace Go.Proofs.Ytaicmkocmnikjaa
set_option linter.all false
open Go Eng
def ir_gantlaw2_WorldBytes : IFun := ⟨33, [4], (.seq (.reg false [⟨(some 2), (.box 27 (.tmp 0)), none⟩, ⟨(some 4), (.mv (.const (.bool false))), none⟩]) (.seq (.reg true [⟨(some 5), (.build [.int .i64 0, .slice none 0 0, .slice none 0 0, .slice none 0 0, .slice none
  0 0] []), none⟩, ⟨(some 6), (.call 4 [.tmp 5]), none⟩, ⟨(some 7), (.toStr (.tmp 6)), none⟩, ⟨(some 8), (.bin .eql (.tmp 7) (.const (.string ⟨#[0, 0, 0, 0, 0]⟩))), none⟩, ⟨(some 9), (.mv (.tmp 8)), none⟩, ⟨(some 10), (.load true
  5 (.tmp 2)), (some (9, true))⟩, ⟨(some 11), (.call 4 [.tmp 10]), (some (9, true))⟩, ⟨(some 12), (.toStr (.tmp 11)), (some (9, true))⟩, ⟨(some 13), (.load true 5 (.tmp 2)), (some (9, true))⟩, ⟨(some 14), (.call 5 [.tmp 13]),
  (some (9, true))⟩, ⟨(some 15), (.bin .eql (.tmp 12) (.tmp 14)), (some (9, true))⟩, ⟨(some 16), (.pick (.tmp 9) (.tmp 15) (.const (.bool false))), none⟩, ⟨(some 17), (.mv (.tmp 16)), none⟩, ⟨(some 18), (.mv (.tmp 1)), (some (17,
  true))⟩, ⟨(some 19), (.call 6 [.tmp 18]), (some (17, true))⟩, ⟨(some 20), (.mv (.tmp 1)), (some (17, true))⟩, ⟨(some 21), (.toStr (.tmp 20)), (some (17, true))⟩, ⟨(some 22), (.call 7 [.tmp 21]), (some (17, true))⟩, ⟨(some 23),
  (.bin .eql (.tmp 19) (.tmp 22)), (some (17, true))⟩, ⟨(some 24), (.pick (.tmp 17) (.tmp 23) (.const (.bool false))), none⟩, ⟨(some 25), (.mv (.tmp 24)), none⟩, ⟨(some 26), (.load true 5 (.tmp 2)), (some (25, true))⟩, ⟨(some 27),
  (.call 8 [.tmp 26]), (some (25, true))⟩, ⟨(some 28), (.load true 5 (.tmp 2)), (some (25, true))⟩, ⟨(some 29), (.call 5 [.tmp 28]), (some (25, true))⟩, ⟨(some 30), (.call 7 [.tmp 29]), (some (25, true))⟩, ⟨(some 31), (.bin .eql
  (.tmp 27) (.tmp 30)), (some (25, true))⟩, ⟨(some 32), (.pick (.tmp 25) (.tmp 31) (.const (.bool false))), none⟩, ⟨(some 4), (.mv (.tmp 32)), none⟩]) .ret))⟩
theorem ok_gantlaw2_WorldBytes : compF Try.prog Try.f3 = some ir_gantlaw2_WorldBytes := by kernel_rfl
theorem fn_gantlaw2_WorldBytes : Try.prog.funcs[3]? = some Try.f3 := Try.func3
def ir_world_Bytes : IFun := ⟨111, [2], (.seq (.reg false [⟨(some 1), (.box 27 (.tmp 0)), none⟩, ⟨(some 2), (.mv (.const (.slice none 0 0))), none⟩]) (.seq (.reg false [⟨(some 12), (.build [.slice none 0 0] []), none⟩, ⟨(some 13), (.box 38 (.tmp 12)), none⟩,
  ⟨(some 3), (.mv (.tmp 13)), none⟩]) (.seq (.reg false [⟨(some 14), (.mv (.tmp 3)), none⟩, ⟨(some 15), (.faddr 0 (.tmp 1)), none⟩, ⟨(some 16), (.load false 1 (.tmp 15)), none⟩, ⟨(some 17), (.call 9 [.tmp 14, .tmp 16]), none⟩])
  (.seq (.reg false [⟨(some 18), (.mv (.tmp 3)), none⟩, ⟨(some 19), (.faddr 1 (.tmp 1)), none⟩, ⟨(some 20), (.load false 1 (.tmp 19)), none⟩, ⟨(some 21), (.len false (.tmp 20)), none⟩, ⟨(some 22), (.call 9 [.tmp 18, .tmp 21]),
  none⟩]) (.seq (.seq (.reg false [⟨(some 23), (.faddr 1 (.tmp 1)), none⟩, ⟨(some 24), (.load false 1 (.tmp 23)), none⟩, ⟨(some 25), (.len false (.tmp 24)), none⟩, ⟨(some 26), (.mv (.const (.int .i64 0))), none⟩]) (.block 0 (.loop
  (.seq (.reg false [⟨(some 27), (.bin .lss (.tmp 26) (.tmp 25)), none⟩]) (.seq (.cond (.tmp 27) .skip (.exit 0)) (.seq (.block 1 (.seq (.reg false [⟨(some 28), (.iaddr 4 (.tmp 24) (.tmp 26)), none⟩, ⟨(some 29), (.load true 4
  (.tmp 28)), none⟩, ⟨(some 5), (.alloc 42 [.slice none 0 0, .slice none 0 0, .bool false, .int .i64 0]), none⟩, ⟨none, (.store 4 (.tmp 5) (.tmp 29)), none⟩]) (.seq (.reg false [⟨(some 30), (.mv (.tmp 3)), none⟩, ⟨(some 31),
  (.faddr 0 (.tmp 5)), none⟩, ⟨(some 32), (.load false 1 (.tmp 31)), none⟩, ⟨(some 33), (.call 10 [.tmp 30, .tmp 32]), none⟩]) (.seq (.reg false [⟨(some 34), (.mv (.tmp 3)), none⟩, ⟨(some 35), (.faddr 1 (.tmp 5)), none⟩, ⟨(some
  36), (.load false 1 (.tmp 35)), none⟩, ⟨(some 37), (.call 10 [.tmp 34, .tmp 36]), none⟩]) (.seq (.reg false [⟨(some 38), (.mv (.tmp 3)), none⟩, ⟨(some 39), (.faddr 2 (.tmp 5)), none⟩, ⟨(some 40), (.load false 1 (.tmp 39)),
  none⟩, ⟨(some 41), (.call 11 [.tmp 38, .tmp 40]), none⟩]) (.reg false [⟨(some 42), (.mv (.tmp 3)), none⟩, ⟨(some 43), (.faddr 3 (.tmp 5)), none⟩, ⟨(some 44), (.load false 1 (.tmp 43)), none⟩, ⟨(some 45), (.bin .add (.tmp 44)
  (.const (.int .i64 1))), none⟩, ⟨(some 46), (.call 9 [.tmp 42, .tmp 45]), none⟩])))))) (.reg false [⟨(some 47), (.bin .add (.tmp 26) (.const (.int .i64 1))), none⟩, ⟨(some 26), (.mv (.tmp 47)), none⟩]))))))) (.seq (.reg false
  [⟨(some 48), (.mv (.tmp 3)), none⟩, ⟨(some 49), (.faddr 2 (.tmp 1)), none⟩, ⟨(some 50), (.load false 1 (.tmp 49)), none⟩, ⟨(some 51), (.len false (.tmp 50)), none⟩, ⟨(some 52), (.call 9 [.tmp 48, .tmp 51]), none⟩]) (.seq (.seq
  (.reg false [⟨(some 53), (.faddr 2 (.tmp 1)), none⟩, ⟨(some 54), (.load false 1 (.tmp 53)), none⟩, ⟨(some 55), (.len false (.tmp 54)), none⟩, ⟨(some 56), (.mv (.const (.int .i64 0))), none⟩]) (.block 2 (.loop (.seq (.reg false
  [⟨(some 57), (.bin .lss (.tmp 56) (.tmp 55)), none⟩]) (.seq (.cond (.tmp 57) .skip (.exit 2)) (.seq (.block 3 (.seq (.reg false [⟨(some 58), (.iaddr 10 (.tmp 54) (.tmp 56)), none⟩, ⟨(some 59), (.load true 10 (.tmp 58)), none⟩,
  ⟨(some 7), (.alloc 52 [.bool false, .string ⟨#[]⟩, .string ⟨#[]⟩, .bool false, .string ⟨#[]⟩, .string ⟨#[]⟩, .bool false, .bool false, .string ⟨#[]⟩, .string ⟨#[]⟩]), none⟩, ⟨none, (.store 10 (.tmp 7) (.tmp 59)), none⟩]) (.seq
  (.reg false [⟨(some 60), (.mv (.tmp 3)), none⟩, ⟨(some 61), (.faddr 0 (.tmp 7)), none⟩, ⟨(some 62), (.load true 6 (.tmp 61)), none⟩, ⟨(some 63), (.call 12 [.tmp 60, .tmp 62]), none⟩]) (.seq (.reg false [⟨(some 64), (.mv (.tmp
  3)), none⟩, ⟨(some 65), (.faddr 6 (.tmp 7)), none⟩, ⟨(some 66), (.faddr 0 (.tmp 65)), none⟩, ⟨(some 67), (.load false 1 (.tmp 66)), none⟩, ⟨(some 68), (.call 11 [.tmp 64, .tmp 67]), none⟩]) (.reg false [⟨(some 69), (.mv (.tmp
  3)), none⟩, ⟨(some 70), (.faddr 6 (.tmp 7)), none⟩, ⟨(some 71), (.faddr 1 (.tmp 70)), none⟩, ⟨(some 72), (.load true 3 (.tmp 71)), none⟩, ⟨(some 73), (.call 13 [.tmp 69, .tmp 72]), none⟩]))))) (.reg false [⟨(some 74), (.bin .add
  (.tmp 56) (.const (.int .i64 1))), none⟩, ⟨(some 56), (.mv (.tmp 74)), none⟩]))))))) (.seq (.reg false [⟨(some 75), (.mv (.tmp 3)), none⟩, ⟨(some 76), (.faddr 3 (.tmp 1)), none⟩, ⟨(some 77), (.load false 1 (.tmp 76)), none⟩,
  ⟨(some 78), (.len false (.tmp 77)), none⟩, ⟨(some 79), (.call 9 [.tmp 75, .tmp 78]), none⟩]) (.seq (.seq (.reg false [⟨(some 80), (.faddr 3 (.tmp 1)), none⟩, ⟨(some 81), (.load false 1 (.tmp 80)), none⟩, ⟨(some 82), (.len false
  (.tmp 81)), none⟩, ⟨(some 83), (.mv (.const (.int .i64 0))), none⟩]) (.block 4 (.loop (.seq (.reg false [⟨(some 84), (.bin .lss (.tmp 83) (.tmp 82)), none⟩]) (.seq (.cond (.tmp 84) .skip (.exit 4)) (.seq (.block 5 (.seq (.reg
  false [⟨(some 85), (.iaddr 6 (.tmp 81) (.tmp 83)), none⟩, ⟨(some 86), (.load true 6 (.tmp 85)), none⟩, ⟨(some 9), (.alloc 48 [.bool false, .string ⟨#[]⟩, .string ⟨#[]⟩, .bool false, .string ⟨#[]⟩, .string ⟨#[]⟩]), none⟩, ⟨none,
  (.store 6 (.tmp 9) (.tmp 86)), none⟩]) (.reg false [⟨(some 87), (.mv (.tmp 3)), none⟩, ⟨(some 88), (.load true 6 (.tmp 9)), none⟩, ⟨(some 89), (.call 12 [.tmp 87, .tmp 88]), none⟩]))) (.reg false [⟨(some 90), (.bin .add (.tmp
  83) (.const (.int .i64 1))), none⟩, ⟨(some 83), (.mv (.tmp 90)), none⟩]))))))) (.seq (.reg false [⟨(some 91), (.mv (.tmp 3)), none⟩, ⟨(some 92), (.faddr 4 (.tmp 1)), none⟩, ⟨(some 93), (.load false 1 (.tmp 92)), none⟩, ⟨(some
  94), (.len false (.tmp 93)), none⟩, ⟨(some 95), (.call 9 [.tmp 91, .tmp 94]), none⟩]) (.seq (.seq (.reg false [⟨(some 96), (.faddr 4 (.tmp 1)), none⟩, ⟨(some 97), (.load false 1 (.tmp 96)), none⟩, ⟨(some 98), (.len false (.tmp
  97)), none⟩, ⟨(some 99), (.mv (.const (.int .i64 0))), none⟩]) (.block 6 (.loop (.seq (.reg false [⟨(some 100), (.bin .lss (.tmp 99) (.tmp 98)), none⟩]) (.seq (.cond (.tmp 100) .skip (.exit 6)) (.seq (.block 7 (.seq (.reg false
  [⟨(some 101), (.iaddr 1 (.tmp 97) (.tmp 99)), none⟩, ⟨(some 102), (.load false 1 (.tmp 101)), none⟩, ⟨(some 11), (.mv (.tmp 102)), none⟩]) (.reg false [⟨(some 103), (.mv (.tmp 3)), none⟩, ⟨(some 104), (.mv (.tmp 11)), none⟩,
  ⟨(some 105), (.call 11 [.tmp 103, .tmp 104]), none⟩]))) (.reg false [⟨(some 106), (.bin .add (.tmp 99) (.const (.int .i64 1))), none⟩, ⟨(some 99), (.mv (.tmp 106)), none⟩]))))))) (.seq (.reg false [⟨(some 107), (.mv (.tmp 3)),
  none⟩, ⟨(some 108), (.nilck (.tmp 107)), none⟩, ⟨(some 109), (.faddr 0 (.tmp 108)), none⟩, ⟨(some 110), (.load false 1 (.tmp 109)), none⟩, ⟨(some 2), (.mv (.tmp 110)), none⟩]) .ret))))))))))))⟩
theorem ok_world_Bytes : compF Try.prog Try.f4 = some ir_world_Bytes := by kernel_rfl
theorem fn_world_Bytes : Try.prog.funcs[4]? = some Try.f4 := Try.func4
def ir_gantref2_Bytes : IFun := ⟨24, [2], (.seq (.reg false [⟨(some 1), (.box 27 (.tmp 0)), none⟩, ⟨(some 2), (.mv (.const (.string ⟨#[]⟩))), none⟩]) (.seq (.reg false [⟨(some 3), (.mv (.func 14)), none⟩]) (.seq (.reg true [⟨(some 4), (.faddr 0 (.tmp 1)), none⟩,
  ⟨(some 5), (.load false 1 (.tmp 4)), none⟩, ⟨(some 6), (.call 18 [.tmp 5]), none⟩, ⟨(some 7), (.faddr 1 (.tmp 1)), none⟩, ⟨(some 8), (.load false 1 (.tmp 7)), none⟩, ⟨(some 9), (.mv (.tmp 3)), none⟩, ⟨(some 10), (.call 19 [.tmp
  8, .tmp 9]), none⟩, ⟨(some 11), (.bin .add (.tmp 6) (.tmp 10)), none⟩, ⟨(some 12), (.faddr 2 (.tmp 1)), none⟩, ⟨(some 13), (.load false 1 (.tmp 12)), none⟩, ⟨(some 14), (.call 20 [.tmp 13, .func 21]), none⟩, ⟨(some 15), (.bin
  .add (.tmp 11) (.tmp 14)), none⟩, ⟨(some 16), (.faddr 3 (.tmp 1)), none⟩, ⟨(some 17), (.load false 1 (.tmp 16)), none⟩, ⟨(some 18), (.call 22 [.tmp 17, .func 23]), none⟩, ⟨(some 19), (.bin .add (.tmp 15) (.tmp 18)), none⟩,
  ⟨(some 20), (.faddr 4 (.tmp 1)), none⟩, ⟨(some 21), (.load false 1 (.tmp 20)), none⟩, ⟨(some 22), (.call 24 [.tmp 21, .func 17]), none⟩, ⟨(some 23), (.bin .add (.tmp 19) (.tmp 22)), none⟩, ⟨(some 2), (.mv (.tmp 23)), none⟩])
  .ret)))⟩
theorem ok_gantref2_Bytes : compF Try.prog Try.f5 = some ir_gantref2_Bytes := by kernel_rfl
theorem fn_gantref2_Bytes : Try.prog.funcs[5]? = some Try.f5 := Try.func5
def ir_world_Sum : IFun := ⟨22, [2], (.seq (.reg false [⟨(some 2), (.mv (.const (.int .u64 0))), none⟩]) (.seq (.reg false [⟨(some 3), (.mv (.const (.int .u64 14695981039346656037))), none⟩]) (.seq (.seq (.reg false [⟨(some 6), (.mv (.tmp 0)), none⟩, ⟨(some
  7), (.len false (.tmp 6)), none⟩, ⟨(some 8), (.mv (.const (.int .i64 0))), none⟩]) (.block 0 (.loop (.seq (.reg false [⟨(some 9), (.bin .lss (.tmp 8) (.tmp 7)), none⟩]) (.seq (.cond (.tmp 9) .skip (.exit 0)) (.seq (.block 1
  (.seq (.reg false [⟨(some 10), (.iaddr 1 (.tmp 6) (.tmp 8)), none⟩, ⟨(some 11), (.load false 1 (.tmp 10)), none⟩, ⟨(some 5), (.mv (.tmp 11)), none⟩]) (.reg false [⟨(some 12), (.mv (.tmp 3)), none⟩, ⟨(some 13), (.mv (.tmp 5)),
  none⟩, ⟨(some 14), (.conv .u64 (.tmp 13)), none⟩, ⟨(some 15), (.bin .xor (.tmp 12) (.tmp 14)), none⟩, ⟨(some 16), (.bin .mul (.tmp 15) (.const (.int .u64 1099511628211))), none⟩, ⟨(some 3), (.mv (.tmp 16)), none⟩]))) (.reg false
  [⟨(some 17), (.bin .add (.tmp 8) (.const (.int .i64 1))), none⟩, ⟨(some 8), (.mv (.tmp 17)), none⟩]))))))) (.seq (.reg false [⟨(some 18), (.mv (.tmp 3)), none⟩, ⟨(some 19), (.mv (.tmp 3)), none⟩, ⟨(some 20), (.bin .shr (.tmp 19)
  (.const (.int .u64 29))), none⟩, ⟨(some 21), (.bin .xor (.tmp 18) (.tmp 20)), none⟩, ⟨(some 2), (.mv (.tmp 21)), none⟩]) .ret))))⟩
theorem ok_world_Sum : compF Try.prog Try.f6 = some ir_world_Sum := by kernel_rfl
theorem fn_world_Sum : Try.prog.funcs[6]? = some Try.f6 := Try.func6
def ir_gantref2_Sum : IFun := ⟨23, [2], (.seq (.reg false [⟨(some 2), (.mv (.const (.int .u64 0))), none⟩]) (.seq (.reg false [⟨(some 3), (.mv (.const (.int .u64 14695981039346656037))), none⟩]) (.seq (.seq (.reg false [⟨(some 5), (.mv (.tmp 0)), none⟩, ⟨(some
  6), (.len true (.tmp 5)), none⟩, ⟨(some 7), (.mv (.const (.int .i64 0))), none⟩]) (.block 0 (.loop (.seq (.reg false [⟨(some 8), (.bin .lss (.tmp 7) (.tmp 6)), none⟩]) (.seq (.cond (.tmp 8) .skip (.exit 0)) (.seq (.block 1 (.seq
  (.reg false [⟨(some 9), (.mv (.tmp 7)), none⟩, ⟨(some 4), (.mv (.tmp 9)), none⟩]) (.seq (.reg false [⟨(some 10), (.mv (.tmp 3)), none⟩, ⟨(some 11), (.mv (.tmp 0)), none⟩, ⟨(some 12), (.mv (.tmp 4)), none⟩, ⟨(some 13), (.idxs
  (.tmp 11) (.tmp 12)), none⟩, ⟨(some 14), (.conv .u64 (.tmp 13)), none⟩, ⟨(some 15), (.bin .xor (.tmp 10) (.tmp 14)), none⟩, ⟨(some 3), (.mv (.tmp 15)), none⟩]) (.reg false [⟨(some 16), (.mv (.tmp 3)), none⟩, ⟨(some 17), (.bin
  .mul (.tmp 16) (.const (.int .u64 1099511628211))), none⟩, ⟨(some 3), (.mv (.tmp 17)), none⟩])))) (.reg false [⟨(some 18), (.bin .add (.tmp 7) (.const (.int .i64 1))), none⟩, ⟨(some 7), (.mv (.tmp 18)), none⟩]))))))) (.seq (.reg
  false [⟨(some 19), (.mv (.tmp 3)), none⟩, ⟨(some 20), (.mv (.tmp 3)), none⟩, ⟨(some 21), (.bin .quo (.tmp 20) (.const (.int .u64 536870912))), none⟩, ⟨(some 22), (.bin .xor (.tmp 19) (.tmp 21)), none⟩, ⟨(some 2), (.mv (.tmp
  22)), none⟩]) .ret))))⟩
theorem ok_gantref2_Sum : compF Try.prog Try.f7 = some ir_gantref2_Sum := by kernel_rfl
theorem fn_gantref2_Sum : Try.prog.funcs[7]? = some Try.f7 := Try.func7
def ir_world_Digest : IFun := ⟨6, [2], (.seq (.reg false [⟨(some 1), (.box 27 (.tmp 0)), none⟩, ⟨(some 2), (.mv (.const (.int .u64 0))), none⟩]) (.seq (.reg false [⟨(some 3), (.load true 5 (.tmp 1)), none⟩, ⟨(some 4), (.call 4 [.tmp 3]), none⟩, ⟨(some 5),
  (.call 6 [.tmp 4]), none⟩, ⟨(some 2), (.mv (.tmp 5)), none⟩]) .ret))⟩
theorem ok_world_Digest : compF Try.prog Try.f8 = some ir_world_Digest := by kernel_rfl
theorem fn_world_Digest : Try.prog.funcs[8]? = some Try.f8 := Try.func8
def ir_gantref2_Bytes_1 : IFun := ⟨19, [2], (.seq (.reg false [⟨(some 1), (.box 42 (.tmp 0)), none⟩, ⟨(some 2), (.mv (.const (.string ⟨#[]⟩))), none⟩]) (.seq (.reg true [⟨(some 3), (.faddr 0 (.tmp 1)), none⟩, ⟨(some 4), (.load false 1 (.tmp 3)), none⟩, ⟨(some 5),
  (.call 15 [.tmp 4, .func 16]), none⟩, ⟨(some 6), (.faddr 1 (.tmp 1)), none⟩, ⟨(some 7), (.load false 1 (.tmp 6)), none⟩, ⟨(some 8), (.call 15 [.tmp 7, .func 16]), none⟩, ⟨(some 9), (.bin .add (.tmp 5) (.tmp 8)), none⟩, ⟨(some
  10), (.faddr 2 (.tmp 1)), none⟩, ⟨(some 11), (.load false 1 (.tmp 10)), none⟩, ⟨(some 12), (.call 17 [.tmp 11]), none⟩, ⟨(some 13), (.bin .add (.tmp 9) (.tmp 12)), none⟩, ⟨(some 14), (.faddr 3 (.tmp 1)), none⟩, ⟨(some 15),
  (.load false 1 (.tmp 14)), none⟩, ⟨(some 16), (.bin .add (.tmp 15) (.const (.int .i64 1))), none⟩, ⟨(some 17), (.call 18 [.tmp 16]), none⟩, ⟨(some 18), (.bin .add (.tmp 13) (.tmp 17)), none⟩, ⟨(some 2), (.mv (.tmp 18)), none⟩])
  .ret))⟩
theorem ok_gantref2_Bytes_1 : compF Try.prog Try.f14 = some ir_gantref2_Bytes_1 := by kernel_rfl
theorem fn_gantref2_Bytes_1 : Try.prog.funcs[14]? = some Try.f14 := Try.func14
def ir_gantref2_list_api_Rat : IFun := ⟨24, [4], (.seq (.reg false [⟨(some 4), (.mv (.const (.string ⟨#[]⟩))), none⟩]) (.seq (.reg false [⟨(some 8), (.mv (.tmp 0)), none⟩, ⟨(some 9), (.len false (.tmp 8)), none⟩, ⟨(some 10), (.call 18 [.tmp 9]), none⟩, ⟨(some 5), (.mv
  (.tmp 10)), none⟩]) (.seq (.seq (.reg false [⟨(some 11), (.mv (.tmp 0)), none⟩, ⟨(some 12), (.len false (.tmp 11)), none⟩, ⟨(some 13), (.mv (.const (.int .i64 0))), none⟩]) (.block 0 (.loop (.seq (.reg false [⟨(some 14), (.bin
  .lss (.tmp 13) (.tmp 12)), none⟩]) (.seq (.cond (.tmp 14) .skip (.exit 0)) (.seq (.block 1 (.seq (.reg false [⟨(some 15), (.iaddr 3 (.tmp 11) (.tmp 13)), none⟩, ⟨(some 16), (.load true 3 (.tmp 15)), none⟩, ⟨(some 7), (.alloc 46
  [.bool false, .string ⟨#[]⟩, .string ⟨#[]⟩]), none⟩, ⟨none, (.store 3 (.tmp 7) (.tmp 16)), none⟩]) (.reg false [⟨(some 17), (.mv (.tmp 5)), none⟩, ⟨(some 18), (.mv (.tmp 1)), none⟩, ⟨(some 19), (.load true 3 (.tmp 7)), none⟩,
  ⟨(some 20), (.callv (.tmp 18) [.tmp 19]), none⟩, ⟨(some 21), (.bin .add (.tmp 17) (.tmp 20)), none⟩, ⟨(some 5), (.mv (.tmp 21)), none⟩]))) (.reg false [⟨(some 22), (.bin .add (.tmp 13) (.const (.int .i64 1))), none⟩, ⟨(some 13),
  (.mv (.tmp 22)), none⟩]))))))) (.seq (.reg false [⟨(some 23), (.mv (.tmp 5)), none⟩, ⟨(some 4), (.mv (.tmp 23)), none⟩]) .ret))))⟩
theorem ok_gantref2_list_api_Rat : compF Try.prog Try.f15 = some ir_gantref2_list_api_Rat := by kernel_rfl
theorem fn_gantref2_list_api_Rat : Try.prog.funcs[15]? = some Try.f15 := Try.func15
def ir_gantref2_number : IFun := ⟨14, [2], (.seq (.reg false [⟨(some 1), (.box 46 (.tmp 0)), none⟩, ⟨(some 2), (.mv (.const (.string ⟨#[]⟩))), none⟩]) (.seq (.reg true [⟨(some 3), (.faddr 0 (.tmp 1)), none⟩, ⟨(some 4), (.load false 1 (.tmp 3)), none⟩, ⟨(some 5),
  (.call 17 [.tmp 4]), none⟩, ⟨(some 6), (.faddr 1 (.tmp 1)), none⟩, ⟨(some 7), (.load false 1 (.tmp 6)), none⟩, ⟨(some 8), (.call 26 [.tmp 7]), none⟩, ⟨(some 9), (.bin .add (.tmp 5) (.tmp 8)), none⟩, ⟨(some 10), (.faddr 2 (.tmp
  1)), none⟩, ⟨(some 11), (.load false 1 (.tmp 10)), none⟩, ⟨(some 12), (.call 26 [.tmp 11]), none⟩, ⟨(some 13), (.bin .add (.tmp 9) (.tmp 12)), none⟩, ⟨(some 2), (.mv (.tmp 13)), none⟩]) .ret))⟩
theorem ok_gantref2_number : compF Try.prog Try.f16 = some ir_gantref2_number := by kernel_rfl
theorem fn_gantref2_number : Try.prog.funcs[16]? = some Try.f16 := Try.func16
def ir_gantref2_truth : IFun := ⟨4, [2], (.seq (.reg false [⟨(some 2), (.mv (.const (.string ⟨#[]⟩))), none⟩]) (.seq (.seq (.reg false [⟨(some 3), (.mv (.tmp 0)), none⟩]) (.cond (.tmp 3) (.seq (.reg false [⟨(some 2), (.mv (.const (.string ⟨#[1]⟩))), none⟩])
  .ret) .skip)) (.seq (.reg false [⟨(some 2), (.mv (.const (.string ⟨#[0]⟩))), none⟩]) .ret)))⟩
theorem ok_gantref2_truth : compF Try.prog Try.f17 = some ir_gantref2_truth := by kernel_rfl
theorem fn_gantref2_truth : Try.prog.funcs[17]? = some Try.f17 := Try.func17
def ir_gantref2_Nat : IFun := ⟨25, [2], (.seq (.reg false [⟨(some 2), (.mv (.const (.string ⟨#[]⟩))), none⟩]) (.seq (.reg false [⟨(some 3), (.mv (.const (.string ⟨#[]⟩))), none⟩]) (.seq (.reg false [⟨(some 5), (.mv (.tmp 0)), none⟩, ⟨(some 6), (.conv .u64
  (.tmp 5)), none⟩, ⟨(some 4), (.mv (.tmp 6)), none⟩]) (.block 0 (.loop (.seq (.block 1 (.seq (.seq (.reg false [⟨(some 9), (.mv (.tmp 4)), none⟩, ⟨(some 10), (.bin .lss (.tmp 9) (.const (.int .u64 128))), none⟩]) (.cond (.tmp 10)
  (.seq (.reg false [⟨(some 11), (.mv (.tmp 3)), none⟩, ⟨(some 12), (.mv (.tmp 4)), none⟩, ⟨(some 13), (.conv .u8 (.tmp 12)), none⟩, ⟨(some 14), (.bsl 5 1 1 [.int .u8 0] [(0, (1, .tmp 13))]), none⟩, ⟨(some 15), (.toStr (.tmp 14)),
  none⟩, ⟨(some 16), (.bin .add (.tmp 11) (.tmp 15)), none⟩, ⟨(some 2), (.mv (.tmp 16)), none⟩]) .ret) .skip)) (.reg false [⟨(some 17), (.mv (.tmp 3)), none⟩, ⟨(some 18), (.mv (.tmp 4)), none⟩, ⟨(some 19), (.bin .and (.tmp 18)
  (.const (.int .u64 127))), none⟩, ⟨(some 20), (.bin .or (.tmp 19) (.const (.int .u64 128))), none⟩, ⟨(some 21), (.conv .u8 (.tmp 20)), none⟩, ⟨(some 22), (.bsl 5 1 1 [.int .u8 0] [(0, (1, .tmp 21))]), none⟩, ⟨(some 23), (.toStr
  (.tmp 22)), none⟩, ⟨(some 24), (.bin .add (.tmp 17) (.tmp 23)), none⟩, ⟨(some 3), (.mv (.tmp 24)), none⟩]))) (.reg false [⟨(some 7), (.mv (.tmp 4)), none⟩, ⟨(some 8), (.bin .shr (.tmp 7) (.const (.int .u64 7))), none⟩, ⟨(some
  4), (.mv (.tmp 8)), none⟩])))))))⟩
theorem ok_gantref2_Nat : compF Try.prog Try.f18 = some ir_gantref2_Nat := by kernel_rfl
theorem fn_gantref2_Nat : Try.prog.funcs[18]? = some Try.f18 := Try.func18
def ir_gantref2_list_api_ArmState : IFun := ⟨24, [4], (.seq (.reg false [⟨(some 4), (.mv (.const (.string ⟨#[]⟩))), none⟩]) (.seq (.reg false [⟨(some 8), (.mv (.tmp 0)), none⟩, ⟨(some 9), (.len false (.tmp 8)), none⟩, ⟨(some 10), (.call 18 [.tmp 9]), none⟩, ⟨(some 5), (.mv
  (.tmp 10)), none⟩]) (.seq (.seq (.reg false [⟨(some 11), (.mv (.tmp 0)), none⟩, ⟨(some 12), (.len false (.tmp 11)), none⟩, ⟨(some 13), (.mv (.const (.int .i64 0))), none⟩]) (.block 0 (.loop (.seq (.reg false [⟨(some 14), (.bin
  .lss (.tmp 13) (.tmp 12)), none⟩]) (.seq (.cond (.tmp 14) .skip (.exit 0)) (.seq (.block 1 (.seq (.reg false [⟨(some 15), (.iaddr 4 (.tmp 11) (.tmp 13)), none⟩, ⟨(some 16), (.load true 4 (.tmp 15)), none⟩, ⟨(some 7), (.alloc 42
  [.slice none 0 0, .slice none 0 0, .bool false, .int .i64 0]), none⟩, ⟨none, (.store 4 (.tmp 7) (.tmp 16)), none⟩]) (.reg false [⟨(some 17), (.mv (.tmp 5)), none⟩, ⟨(some 18), (.mv (.tmp 1)), none⟩, ⟨(some 19), (.load true 4
  (.tmp 7)), none⟩, ⟨(some 20), (.callv (.tmp 18) [.tmp 19]), none⟩, ⟨(some 21), (.bin .add (.tmp 17) (.tmp 20)), none⟩, ⟨(some 5), (.mv (.tmp 21)), none⟩]))) (.reg false [⟨(some 22), (.bin .add (.tmp 13) (.const (.int .i64 1))),
  none⟩, ⟨(some 13), (.mv (.tmp 22)), none⟩]))))))) (.seq (.reg false [⟨(some 23), (.mv (.tmp 5)), none⟩, ⟨(some 4), (.mv (.tmp 23)), none⟩]) .ret))))⟩
theorem ok_gantref2_list_api_ArmState : compF Try.prog Try.f19 = some ir_gantref2_list_api_ArmState := by kernel_rfl
theorem fn_gantref2_list_api_ArmState : Try.prog.funcs[19]? = some Try.f19 := Try.func19
def ir_gantref2_list_api_Frame : IFun := ⟨24, [4], (.seq (.reg false [⟨(some 4), (.mv (.const (.string ⟨#[]⟩))), none⟩]) (.seq (.reg false [⟨(some 8), (.mv (.tmp 0)), none⟩, ⟨(some 9), (.len false (.tmp 8)), none⟩, ⟨(some 10), (.call 18 [.tmp 9]), none⟩, ⟨(some 5), (.mv
  (.tmp 10)), none⟩]) (.seq (.seq (.reg false [⟨(some 11), (.mv (.tmp 0)), none⟩, ⟨(some 12), (.len false (.tmp 11)), none⟩, ⟨(some 13), (.mv (.const (.int .i64 0))), none⟩]) (.block 0 (.loop (.seq (.reg false [⟨(some 14), (.bin
  .lss (.tmp 13) (.tmp 12)), none⟩]) (.seq (.cond (.tmp 14) .skip (.exit 0)) (.seq (.block 1 (.seq (.reg false [⟨(some 15), (.iaddr 10 (.tmp 11) (.tmp 13)), none⟩, ⟨(some 16), (.load true 10 (.tmp 15)), none⟩, ⟨(some 7), (.alloc
  52 [.bool false, .string ⟨#[]⟩, .string ⟨#[]⟩, .bool false, .string ⟨#[]⟩, .string ⟨#[]⟩, .bool false, .bool false, .string ⟨#[]⟩, .string ⟨#[]⟩]), none⟩, ⟨none, (.store 10 (.tmp 7) (.tmp 16)), none⟩]) (.reg false [⟨(some 17),
  (.mv (.tmp 5)), none⟩, ⟨(some 18), (.mv (.tmp 1)), none⟩, ⟨(some 19), (.load true 10 (.tmp 7)), none⟩, ⟨(some 20), (.callv (.tmp 18) [.tmp 19]), none⟩, ⟨(some 21), (.bin .add (.tmp 17) (.tmp 20)), none⟩, ⟨(some 5), (.mv (.tmp
  21)), none⟩]))) (.reg false [⟨(some 22), (.bin .add (.tmp 13) (.const (.int .i64 1))), none⟩, ⟨(some 13), (.mv (.tmp 22)), none⟩]))))))) (.seq (.reg false [⟨(some 23), (.mv (.tmp 5)), none⟩, ⟨(some 4), (.mv (.tmp 23)), none⟩])
  .ret))))⟩
theorem ok_gantref2_list_api_Frame : compF Try.prog Try.f20 = some ir_gantref2_list_api_Frame := by kernel_rfl
theorem fn_gantref2_list_api_Frame : Try.prog.funcs[20]? = some Try.f20 := Try.func20
def ir_gantref2_placed : IFun := ⟨16, [2], (.seq (.reg false [⟨(some 1), (.box 52 (.tmp 0)), none⟩, ⟨(some 2), (.mv (.const (.string ⟨#[]⟩))), none⟩]) (.seq (.reg true [⟨(some 3), (.faddr 0 (.tmp 1)), none⟩, ⟨(some 4), (.load true 6 (.tmp 3)), none⟩, ⟨(some 5),
  (.call 23 [.tmp 4]), none⟩, ⟨(some 6), (.faddr 6 (.tmp 1)), none⟩, ⟨(some 7), (.faddr 0 (.tmp 6)), none⟩, ⟨(some 8), (.load false 1 (.tmp 7)), none⟩, ⟨(some 9), (.call 17 [.tmp 8]), none⟩, ⟨(some 10), (.bin .add (.tmp 5) (.tmp
  9)), none⟩, ⟨(some 11), (.faddr 6 (.tmp 1)), none⟩, ⟨(some 12), (.faddr 1 (.tmp 11)), none⟩, ⟨(some 13), (.load true 3 (.tmp 12)), none⟩, ⟨(some 14), (.call 16 [.tmp 13]), none⟩, ⟨(some 15), (.bin .add (.tmp 10) (.tmp 14)),
  none⟩, ⟨(some 2), (.mv (.tmp 15)), none⟩]) .ret))⟩
theorem ok_gantref2_placed : compF Try.prog Try.f21 = some ir_gantref2_placed := by kernel_rfl
theorem fn_gantref2_placed : Try.prog.funcs[21]? = some Try.f21 := Try.func21
def ir_gantref2_list_api_Vec : IFun := ⟨24, [4], (.seq (.reg false [⟨(some 4), (.mv (.const (.string ⟨#[]⟩))), none⟩]) (.seq (.reg false [⟨(some 8), (.mv (.tmp 0)), none⟩, ⟨(some 9), (.len false (.tmp 8)), none⟩, ⟨(some 10), (.call 18 [.tmp 9]), none⟩, ⟨(some 5), (.mv
  (.tmp 10)), none⟩]) (.seq (.seq (.reg false [⟨(some 11), (.mv (.tmp 0)), none⟩, ⟨(some 12), (.len false (.tmp 11)), none⟩, ⟨(some 13), (.mv (.const (.int .i64 0))), none⟩]) (.block 0 (.loop (.seq (.reg false [⟨(some 14), (.bin
  .lss (.tmp 13) (.tmp 12)), none⟩]) (.seq (.cond (.tmp 14) .skip (.exit 0)) (.seq (.block 1 (.seq (.reg false [⟨(some 15), (.iaddr 6 (.tmp 11) (.tmp 13)), none⟩, ⟨(some 16), (.load true 6 (.tmp 15)), none⟩, ⟨(some 7), (.alloc 48
  [.bool false, .string ⟨#[]⟩, .string ⟨#[]⟩, .bool false, .string ⟨#[]⟩, .string ⟨#[]⟩]), none⟩, ⟨none, (.store 6 (.tmp 7) (.tmp 16)), none⟩]) (.reg false [⟨(some 17), (.mv (.tmp 5)), none⟩, ⟨(some 18), (.mv (.tmp 1)), none⟩,
  ⟨(some 19), (.load true 6 (.tmp 7)), none⟩, ⟨(some 20), (.callv (.tmp 18) [.tmp 19]), none⟩, ⟨(some 21), (.bin .add (.tmp 17) (.tmp 20)), none⟩, ⟨(some 5), (.mv (.tmp 21)), none⟩]))) (.reg false [⟨(some 22), (.bin .add (.tmp 13)
  (.const (.int .i64 1))), none⟩, ⟨(some 13), (.mv (.tmp 22)), none⟩]))))))) (.seq (.reg false [⟨(some 23), (.mv (.tmp 5)), none⟩, ⟨(some 4), (.mv (.tmp 23)), none⟩]) .ret))))⟩
theorem ok_gantref2_list_api_Vec : compF Try.prog Try.f22 = some ir_gantref2_list_api_Vec := by kernel_rfl
theorem fn_gantref2_list_api_Vec : Try.prog.funcs[22]? = some Try.f22 := Try.func22
def ir_gantref2_point : IFun := ⟨10, [2], (.seq (.reg false [⟨(some 1), (.box 48 (.tmp 0)), none⟩, ⟨(some 2), (.mv (.const (.string ⟨#[]⟩))), none⟩]) (.seq (.reg true [⟨(some 3), (.faddr 0 (.tmp 1)), none⟩, ⟨(some 4), (.load true 3 (.tmp 3)), none⟩, ⟨(some 5),
  (.call 16 [.tmp 4]), none⟩, ⟨(some 6), (.faddr 3 (.tmp 1)), none⟩, ⟨(some 7), (.load true 3 (.tmp 6)), none⟩, ⟨(some 8), (.call 16 [.tmp 7]), none⟩, ⟨(some 9), (.bin .add (.tmp 5) (.tmp 8)), none⟩, ⟨(some 2), (.mv (.tmp 9)),
  none⟩]) .ret))⟩
theorem ok_gantref2_point : compF Try.prog Try.f23 = some ir_gantref2_point := by kernel_rfl
theorem fn_gantref2_point : Try.prog.funcs[23]? = some Try.f23 := Try.func23
def ir_gantref2_list_bool : IFun := ⟨24, [4], (.seq (.reg false [⟨(some 4), (.mv (.const (.string ⟨#[]⟩))), none⟩]) (.seq (.reg false [⟨(some 8), (.mv (.tmp 0)), none⟩, ⟨(some 9), (.len false (.tmp 8)), none⟩, ⟨(some 10), (.call 18 [.tmp 9]), none⟩, ⟨(some 5), (.mv
  (.tmp 10)), none⟩]) (.seq (.seq (.reg false [⟨(some 11), (.mv (.tmp 0)), none⟩, ⟨(some 12), (.len false (.tmp 11)), none⟩, ⟨(some 13), (.mv (.const (.int .i64 0))), none⟩]) (.block 0 (.loop (.seq (.reg false [⟨(some 14), (.bin
  .lss (.tmp 13) (.tmp 12)), none⟩]) (.seq (.cond (.tmp 14) .skip (.exit 0)) (.seq (.block 1 (.seq (.reg false [⟨(some 15), (.iaddr 1 (.tmp 11) (.tmp 13)), none⟩, ⟨(some 16), (.load false 1 (.tmp 15)), none⟩, ⟨(some 7), (.mv (.tmp
  16)), none⟩]) (.reg false [⟨(some 17), (.mv (.tmp 5)), none⟩, ⟨(some 18), (.mv (.tmp 1)), none⟩, ⟨(some 19), (.mv (.tmp 7)), none⟩, ⟨(some 20), (.callv (.tmp 18) [.tmp 19]), none⟩, ⟨(some 21), (.bin .add (.tmp 17) (.tmp 20)),
  none⟩, ⟨(some 5), (.mv (.tmp 21)), none⟩]))) (.reg false [⟨(some 22), (.bin .add (.tmp 13) (.const (.int .i64 1))), none⟩, ⟨(some 13), (.mv (.tmp 22)), none⟩]))))))) (.seq (.reg false [⟨(some 23), (.mv (.tmp 5)), none⟩, ⟨(some
  4), (.mv (.tmp 23)), none⟩]) .ret))))⟩
theorem ok_gantref2_list_bool : compF Try.prog Try.f24 = some ir_gantref2_list_bool := by kernel_rfl
theorem fn_gantref2_list_bool : Try.prog.funcs[24]? = some Try.f24 := Try.func24
def ir_gantref2_text : IFun := ⟨8, [2], (.seq (.reg false [⟨(some 2), (.mv (.const (.string ⟨#[]⟩))), none⟩]) (.seq (.reg false [⟨(some 3), (.mv (.tmp 0)), none⟩, ⟨(some 4), (.len true (.tmp 3)), none⟩, ⟨(some 5), (.call 18 [.tmp 4]), none⟩, ⟨(some 6), (.mv
  (.tmp 0)), none⟩, ⟨(some 7), (.bin .add (.tmp 5) (.tmp 6)), none⟩, ⟨(some 2), (.mv (.tmp 7)), none⟩]) .ret))⟩
theorem ok_gantref2_text : compF Try.prog Try.f26 = some ir_gantref2_text := by kernel_rfl
theorem fn_gantref2_text : Try.prog.funcs[26]? = some Try.f26 := Try.func26
def ir_world_writer_nat : IFun := ⟨35, [], (.seq (.reg false [⟨(some 5), (.mv (.tmp 1)), none⟩, ⟨(some 6), (.conv .u64 (.tmp 5)), none⟩, ⟨(some 4), (.mv (.tmp 6)), none⟩]) (.seq (.block 0 (.loop (.seq (.seq (.reg false [⟨(some 7), (.mv (.tmp 4)), none⟩, ⟨(some 8),
  (.bin .geq (.tmp 7) (.const (.int .u64 128))), none⟩]) (.cond (.tmp 8) .skip (.exit 0))) (.seq (.block 1 (.reg false [⟨(some 11), (.mv (.tmp 0)), none⟩, ⟨(some 12), (.mv (.tmp 0)), none⟩, ⟨(some 13), (.nilck (.tmp 12)), none⟩,
  ⟨(some 14), (.faddr 0 (.tmp 13)), none⟩, ⟨(some 15), (.load false 1 (.tmp 14)), none⟩, ⟨(some 16), (.mv (.tmp 4)), none⟩, ⟨(some 17), (.bin .rem (.tmp 16) (.const (.int .u64 128))), none⟩, ⟨(some 18), (.conv .u8 (.tmp 17)),
  none⟩, ⟨(some 19), (.bin .add (.tmp 18) (.const (.int .u8 128))), none⟩, ⟨(some 20), (.bsl 5 1 1 [.int .u8 0] [(0, (1, .tmp 19))]), none⟩, ⟨(some 21), (.app 5 1 1 (.tmp 15) (.tmp 20)), none⟩, ⟨(some 22), (.nilck (.tmp 11)),
  none⟩, ⟨(some 23), (.faddr 0 (.tmp 22)), none⟩, ⟨none, (.store 1 (.tmp 23) (.tmp 21)), none⟩])) (.reg false [⟨(some 9), (.mv (.tmp 4)), none⟩, ⟨(some 10), (.bin .quo (.tmp 9) (.const (.int .u64 128))), none⟩, ⟨(some 4), (.mv
  (.tmp 10)), none⟩]))))) (.reg false [⟨(some 24), (.mv (.tmp 0)), none⟩, ⟨(some 25), (.mv (.tmp 0)), none⟩, ⟨(some 26), (.nilck (.tmp 25)), none⟩, ⟨(some 27), (.faddr 0 (.tmp 26)), none⟩, ⟨(some 28), (.load false 1 (.tmp 27)),
  none⟩, ⟨(some 29), (.mv (.tmp 4)), none⟩, ⟨(some 30), (.conv .u8 (.tmp 29)), none⟩, ⟨(some 31), (.bsl 5 1 1 [.int .u8 0] [(0, (1, .tmp 30))]), none⟩, ⟨(some 32), (.app 5 1 1 (.tmp 28) (.tmp 31)), none⟩, ⟨(some 33), (.nilck (.tmp
  24)), none⟩, ⟨(some 34), (.faddr 0 (.tmp 33)), none⟩, ⟨none, (.store 1 (.tmp 34) (.tmp 32)), none⟩])))⟩
theorem ok_world_writer_nat : compF Try.prog Try.f9 = some ir_world_writer_nat := by kernel_rfl
theorem fn_world_writer_nat : Try.prog.funcs[9]? = some Try.f9 := Try.func9
def ir_world_writer_rats : IFun := ⟨20, [], (.seq (.reg false [⟨(some 6), (.mv (.tmp 0)), none⟩, ⟨(some 7), (.mv (.tmp 1)), none⟩, ⟨(some 8), (.len false (.tmp 7)), none⟩, ⟨(some 9), (.call 9 [.tmp 6, .tmp 8]), none⟩]) (.seq (.reg false [⟨(some 10), (.mv (.tmp 1)),
  none⟩, ⟨(some 11), (.len false (.tmp 10)), none⟩, ⟨(some 12), (.mv (.const (.int .i64 0))), none⟩]) (.block 0 (.loop (.seq (.reg false [⟨(some 13), (.bin .lss (.tmp 12) (.tmp 11)), none⟩]) (.seq (.cond (.tmp 13) .skip (.exit 0))
  (.seq (.block 1 (.seq (.reg false [⟨(some 14), (.iaddr 3 (.tmp 10) (.tmp 12)), none⟩, ⟨(some 15), (.load true 3 (.tmp 14)), none⟩, ⟨(some 5), (.alloc 46 [.bool false, .string ⟨#[]⟩, .string ⟨#[]⟩]), none⟩, ⟨none, (.store 3 (.tmp
  5) (.tmp 15)), none⟩]) (.reg false [⟨(some 16), (.mv (.tmp 0)), none⟩, ⟨(some 17), (.load true 3 (.tmp 5)), none⟩, ⟨(some 18), (.call 13 [.tmp 16, .tmp 17]), none⟩]))) (.reg false [⟨(some 19), (.bin .add (.tmp 12) (.const (.int
  .i64 1))), none⟩, ⟨(some 12), (.mv (.tmp 19)), none⟩]))))))))⟩
theorem ok_world_writer_rats : compF Try.prog Try.f10 = some ir_world_writer_rats := by kernel_rfl
theorem fn_world_writer_rats : Try.prog.funcs[10]? = some Try.f10 := Try.func10
def ir_world_writer_bool : IFun := ⟨9, [], (.seq (.reg false [⟨(some 4), (.mv (.const (.int .i64 0))), none⟩]) (.seq (.seq (.reg false [⟨(some 5), (.mv (.tmp 1)), none⟩]) (.cond (.tmp 5) (.reg false [⟨(some 4), (.mv (.const (.int .i64 1))), none⟩]) .skip)) (.reg
  false [⟨(some 6), (.mv (.tmp 0)), none⟩, ⟨(some 7), (.mv (.tmp 4)), none⟩, ⟨(some 8), (.call 9 [.tmp 6, .tmp 7]), none⟩])))⟩
theorem ok_world_writer_bool : compF Try.prog Try.f11 = some ir_world_writer_bool := by kernel_rfl
theorem fn_world_writer_bool : Try.prog.funcs[11]? = some Try.f11 := Try.func11
def ir_world_writer_vec : IFun := ⟨12, [], (.seq (.reg false [⟨(some 3), (.box 48 (.tmp 1)), none⟩]) (.seq (.reg false [⟨(some 4), (.mv (.tmp 0)), none⟩, ⟨(some 5), (.faddr 0 (.tmp 3)), none⟩, ⟨(some 6), (.load true 3 (.tmp 5)), none⟩, ⟨(some 7), (.call 13 [.tmp
  4, .tmp 6]), none⟩]) (.reg false [⟨(some 8), (.mv (.tmp 0)), none⟩, ⟨(some 9), (.faddr 3 (.tmp 3)), none⟩, ⟨(some 10), (.load true 3 (.tmp 9)), none⟩, ⟨(some 11), (.call 13 [.tmp 8, .tmp 10]), none⟩])))⟩
theorem ok_world_writer_vec : compF Try.prog Try.f12 = some ir_world_writer_vec := by kernel_rfl
theorem fn_world_writer_vec : Try.prog.funcs[12]? = some Try.f12 := Try.func12
def ir_world_writer_rat : IFun := ⟨16, [], (.seq (.reg false [⟨(some 3), (.box 46 (.tmp 1)), none⟩]) (.seq (.reg false [⟨(some 4), (.mv (.tmp 0)), none⟩, ⟨(some 5), (.faddr 0 (.tmp 3)), none⟩, ⟨(some 6), (.load false 1 (.tmp 5)), none⟩, ⟨(some 7), (.call 11 [.tmp
  4, .tmp 6]), none⟩]) (.seq (.reg false [⟨(some 8), (.mv (.tmp 0)), none⟩, ⟨(some 9), (.faddr 1 (.tmp 3)), none⟩, ⟨(some 10), (.load false 1 (.tmp 9)), none⟩, ⟨(some 11), (.call 25 [.tmp 8, .tmp 10]), none⟩]) (.reg false [⟨(some
  12), (.mv (.tmp 0)), none⟩, ⟨(some 13), (.faddr 2 (.tmp 3)), none⟩, ⟨(some 14), (.load false 1 (.tmp 13)), none⟩, ⟨(some 15), (.call 25 [.tmp 12, .tmp 14]), none⟩]))))⟩
theorem ok_world_writer_rat : compF Try.prog Try.f13 = some ir_world_writer_rat := by kernel_rfl
theorem fn_world_writer_rat : Try.prog.funcs[13]? = some Try.f13 := Try.func13
def ir_world_writer_text : IFun := ⟨17, [], (.seq (.reg false [⟨(some 4), (.mv (.tmp 0)), none⟩, ⟨(some 5), (.mv (.tmp 1)), none⟩, ⟨(some 6), (.len true (.tmp 5)), none⟩, ⟨(some 7), (.call 9 [.tmp 4, .tmp 6]), none⟩]) (.reg false [⟨(some 8), (.mv (.tmp 0)), none⟩,
  ⟨(some 9), (.mv (.tmp 0)), none⟩, ⟨(some 10), (.nilck (.tmp 9)), none⟩, ⟨(some 11), (.faddr 0 (.tmp 10)), none⟩, ⟨(some 12), (.load false 1 (.tmp 11)), none⟩, ⟨(some 13), (.mv (.tmp 1)), none⟩, ⟨(some 14), (.apps 5 (.tmp 12)
  (.tmp 13)), none⟩, ⟨(some 15), (.nilck (.tmp 8)), none⟩, ⟨(some 16), (.faddr 0 (.tmp 15)), none⟩, ⟨none, (.store 1 (.tmp 16) (.tmp 14)), none⟩]))⟩
theorem ok_world_writer_text : compF Try.prog Try.f25 = some ir_world_writer_text := by kernel_rfl
theorem fn_world_writer_text : Try.prog.funcs[25]? = some Try.f25 := Try.func25
end Go.Proofs.Ytaicmkocmnikjaa
