/- The intermediate forms of functions of the program, printed by a program of mine; each is checked against the loaded function. -/
import Derived.Test.YtaicmkocmnikjaaDoorFun
import Derived.Test.YtaicmkocmnikjaaDoorProg
import Derived.KernelRfl
namespace Go.Proofs.YtaicmkocmnikjaaDoor
set_option linter.all false
open Go Eng
/-- the functions that are taken to have effects -/
def effs : List Nat := [28]
def eff (f : Nat) : Bool := effs.contains f
def ir_fault_Check : IFun := ⟨116, [.tmp 4], (.seq (.reg [⟨(some 4), (.mv (.const (.int .i64 0))), none⟩]) (.seq (.seq (.reg [⟨(some 8), (.mv (.tmp 0)), none⟩, ⟨(some 9), (.len false (.tmp 8)), none⟩, ⟨(some 10), (.bin .gtr (.tmp 9) (.const (.int .i64 40))),
  none⟩]) (.cond (.tmp 10) (.seq (.reg [⟨(some 4), (.mv (.const (.int .i64 2))), none⟩]) .ret) .skip)) (.seq (.reg [⟨(some 11), (.mkmap false), none⟩, ⟨(some 5), (.mv (.tmp 11)), none⟩]) (.seq (.seq (.reg [⟨(some 12), (.mv (.tmp
  0)), none⟩, ⟨(some 13), (.len false (.tmp 12)), none⟩, ⟨(some 14), (.mv (.const (.int .i64 0))), none⟩]) (.block 0 (.loop (.seq (.reg [⟨(some 15), (.bin .lss (.tmp 14) (.tmp 13)), none⟩]) (.seq (.cond (.tmp 15) .skip (.exit 0))
  (.seq (.block 1 (.seq (.reg [⟨(some 16), (.mv (.tmp 14)), none⟩, ⟨(some 17), (.iaddr 3 (.tmp 12) (.tmp 14)), none⟩, ⟨(some 18), (.load true 3 (.tmp 17)), none⟩, ⟨(some 7), (.alloc 28 [.int .i64 0, .int .i64 0, .int .i64 0]),
  none⟩, ⟨(some 6), (.mv (.tmp 16)), none⟩, ⟨none, (.store 3 (.tmp 7) (.tmp 18)), none⟩]) (.seq (.block 2 (.seq (.reg [⟨(some 20), (.faddr 0 (.tmp 7)), none⟩, ⟨(some 21), (.load false 1 (.tmp 20)), none⟩, ⟨(some 22), (.bin .lss
  (.tmp 21) (.const (.int .i64 0))), none⟩, ⟨(some 23), (.mv (.tmp 22)), none⟩, ⟨(some 24), (.faddr 0 (.tmp 7)), (some (23, false))⟩, ⟨(some 25), (.load false 1 (.tmp 24)), (some (23, false))⟩, ⟨(some 26), (.bin .gtr (.tmp 25)
  (.const (.int .i64 2000))), (some (23, false))⟩, ⟨(some 27), (.pick (.tmp 23) (.const (.bool true)) (.tmp 26)), none⟩, ⟨(some 19), (.mv (.tmp 27)), none⟩]) (.cond (.tmp 19) (.seq (.reg [⟨(some 4), (.mv (.const (.int .i64 1))),
  none⟩]) .ret) (.seq (.regd [.q, .q, .q, .q, .q, .q, .q, .q, .q, .q, .q] [⟨(some 29), (.faddr 1 (.tmp 7)), none⟩, ⟨(some 30), (.load false 1 (.tmp 29)), none⟩, ⟨(some 31), (.bin .lss (.tmp 30) (.const (.int .i64 0))), none⟩,
  ⟨(some 32), (.mv (.tmp 31)), none⟩, ⟨(some 33), (.faddr 1 (.tmp 7)), (some (32, false))⟩, ⟨(some 34), (.load false 1 (.tmp 33)), (some (32, false))⟩, ⟨(some 35), (.call 25 []), (some (32, false))⟩, ⟨(some 36), (.len false (.tmp
  35)), (some (32, false))⟩, ⟨(some 37), (.bin .geq (.tmp 34) (.tmp 36)), (some (32, false))⟩, ⟨(some 38), (.pick (.tmp 32) (.const (.bool true)) (.tmp 37)), none⟩, ⟨(some 28), (.mv (.tmp 38)), none⟩]) (.cond (.tmp 28) (.seq (.reg
  [⟨(some 4), (.mv (.const (.int .i64 3))), none⟩]) .ret) (.seq (.reg [⟨(some 40), (.faddr 2 (.tmp 7)), none⟩, ⟨(some 41), (.load false 1 (.tmp 40)), none⟩, ⟨(some 42), (.bin .lss (.tmp 41) (.const (.int .i64 0))), none⟩, ⟨(some
  43), (.mv (.tmp 42)), none⟩, ⟨(some 44), (.faddr 1 (.tmp 7)), (some (43, false))⟩, ⟨(some 45), (.load false 1 (.tmp 44)), (some (43, false))⟩, ⟨(some 46), (.call 26 [.tmp 45]), (some (43, false))⟩, ⟨(some 47), (.mv (.tmp 46)),
  (some (43, false))⟩, ⟨(some 48), (.faddr 2 (.tmp 7)), (some (47, true))⟩, ⟨(some 49), (.load false 1 (.tmp 48)), (some (47, true))⟩, ⟨(some 50), (.mv (.tmp 1)), (some (47, true))⟩, ⟨(some 51), (.bin .geq (.tmp 49) (.tmp 50)),
  (some (47, true))⟩, ⟨(some 52), (.pick (.tmp 47) (.tmp 51) (.const (.bool false))), (some (43, false))⟩, ⟨(some 53), (.pick (.tmp 43) (.const (.bool true)) (.tmp 52)), none⟩, ⟨(some 54), (.mv (.tmp 53)), none⟩, ⟨(some 55),
  (.faddr 1 (.tmp 7)), (some (54, false))⟩, ⟨(some 56), (.load false 1 (.tmp 55)), (some (54, false))⟩, ⟨(some 57), (.call 26 [.tmp 56]), (some (54, false))⟩, ⟨(some 58), (.un .not (.tmp 57)), (some (54, false))⟩, ⟨(some 59), (.mv
  (.tmp 58)), (some (54, false))⟩, ⟨(some 60), (.faddr 2 (.tmp 7)), (some (59, true))⟩, ⟨(some 61), (.load false 1 (.tmp 60)), (some (59, true))⟩, ⟨(some 62), (.bin .gtr (.tmp 61) (.const (.int .i64 40))), (some (59, true))⟩,
  ⟨(some 63), (.pick (.tmp 59) (.tmp 62) (.const (.bool false))), (some (54, false))⟩, ⟨(some 64), (.pick (.tmp 54) (.const (.bool true)) (.tmp 63)), none⟩, ⟨(some 39), (.mv (.tmp 64)), none⟩]) (.cond (.tmp 39) (.seq (.reg [⟨(some
  4), (.mv (.const (.int .i64 1))), none⟩]) .ret) (.seq (.regd [.q, .q, .q, .q, .q, .q, .q, .q, .q, .q, .q, .q, .q, .q] [⟨(some 66), (.mv (.tmp 6)), none⟩, ⟨(some 67), (.bin .gtr (.tmp 66) (.const (.int .i64 0))), none⟩, ⟨(some
  68), (.mv (.tmp 67)), none⟩, ⟨(some 69), (.faddr 0 (.tmp 7)), (some (68, true))⟩, ⟨(some 70), (.load false 1 (.tmp 69)), (some (68, true))⟩, ⟨(some 71), (.mv (.tmp 0)), (some (68, true))⟩, ⟨(some 72), (.mv (.tmp 6)), (some (68,
  true))⟩, ⟨(some 73), (.bin .sub (.tmp 72) (.const (.int .i64 1))), (some (68, true))⟩, ⟨(some 74), (.iaddr 3 (.tmp 71) (.tmp 73)), (some (68, true))⟩, ⟨(some 75), (.faddr 0 (.tmp 74)), (some (68, true))⟩, ⟨(some 76), (.load
  false 1 (.tmp 75)), (some (68, true))⟩, ⟨(some 77), (.bin .lss (.tmp 70) (.tmp 76)), (some (68, true))⟩, ⟨(some 78), (.pick (.tmp 68) (.tmp 77) (.const (.bool false))), none⟩, ⟨(some 65), (.mv (.tmp 78)), none⟩]) (.cond (.tmp
  65) (.seq (.reg [⟨(some 4), (.mv (.const (.int .i64 9))), none⟩]) .ret) (.seq (.reg [⟨(some 80), (.faddr 1 (.tmp 7)), none⟩, ⟨(some 81), (.load false 1 (.tmp 80)), none⟩, ⟨(some 82), (.bin .eql (.tmp 81) (.const (.int .i64 3))),
  none⟩, ⟨(some 83), (.mv (.tmp 82)), none⟩, ⟨(some 84), (.mv (.tmp 5)), (some (83, true))⟩, ⟨(some 85), (.faddr 2 (.tmp 7)), (some (83, true))⟩, ⟨(some 86), (.load false 1 (.tmp 85)), (some (83, true))⟩, ⟨(some 87), (.lkp false
  (.bool false) false (.tmp 84) (.tmp 86)), (some (83, true))⟩, ⟨(some 88), (.pick (.tmp 83) (.tmp 87) (.const (.bool false))), none⟩, ⟨(some 89), (.mv (.tmp 88)), none⟩, ⟨(some 90), (.faddr 1 (.tmp 7)), (some (89, false))⟩,
  ⟨(some 91), (.load false 1 (.tmp 90)), (some (89, false))⟩, ⟨(some 92), (.bin .eql (.tmp 91) (.const (.int .i64 4))), (some (89, false))⟩, ⟨(some 93), (.mv (.tmp 92)), (some (89, false))⟩, ⟨(some 94), (.mv (.tmp 5)), (some (93,
  true))⟩, ⟨(some 95), (.faddr 2 (.tmp 7)), (some (93, true))⟩, ⟨(some 96), (.load false 1 (.tmp 95)), (some (93, true))⟩, ⟨(some 97), (.lkp false (.bool false) false (.tmp 94) (.tmp 96)), (some (93, true))⟩, ⟨(some 98), (.un .not
  (.tmp 97)), (some (93, true))⟩, ⟨(some 99), (.pick (.tmp 93) (.tmp 98) (.const (.bool false))), (some (89, false))⟩, ⟨(some 100), (.pick (.tmp 89) (.const (.bool true)) (.tmp 99)), none⟩, ⟨(some 79), (.mv (.tmp 100)), none⟩])
  (.cond (.tmp 79) (.seq (.reg [⟨(some 4), (.mv (.const (.int .i64 7))), none⟩]) .ret) .skip))))))))))) (.seq (.reg [⟨(some 101), (.faddr 1 (.tmp 7)), none⟩, ⟨(some 102), (.load false 1 (.tmp 101)), none⟩, ⟨(some 103), (.bin .eql
  (.tmp 102) (.const (.int .i64 3))), none⟩, ⟨(some 104), (.mv (.tmp 103)), none⟩, ⟨(some 105), (.faddr 1 (.tmp 7)), (some (104, false))⟩, ⟨(some 106), (.load false 1 (.tmp 105)), (some (104, false))⟩, ⟨(some 107), (.bin .eql
  (.tmp 106) (.const (.int .i64 4))), (some (104, false))⟩, ⟨(some 108), (.pick (.tmp 104) (.const (.bool true)) (.tmp 107)), none⟩]) (.cond (.tmp 108) (.reg [⟨(some 109), (.mv (.tmp 5)), none⟩, ⟨(some 110), (.faddr 2 (.tmp 7)),
  none⟩, ⟨(some 111), (.load false 1 (.tmp 110)), none⟩, ⟨(some 112), (.faddr 1 (.tmp 7)), none⟩, ⟨(some 113), (.load false 1 (.tmp 112)), none⟩, ⟨(some 114), (.bin .eql (.tmp 113) (.const (.int .i64 3))), none⟩, ⟨none, (.mupd
  false (.tmp 109) (.tmp 111) (.tmp 114)), none⟩]) .skip))))) (.reg [⟨(some 115), (.bin .add (.tmp 14) (.const (.int .i64 1))), none⟩, ⟨(some 14), (.mv (.tmp 115)), none⟩]))))))) (.seq (.reg [⟨(some 4), (.mv (.const (.int .i64
  0))), none⟩]) .ret)))))⟩
theorem ok_fault_Check : compF eff Tryd.prog Tryd.f8 = some ir_fault_Check := by kernel_rfl
theorem fn_fault_Check : Tryd.prog.funcs[8]? = some Tryd.f8 := Tryd.func8
def ir_fault_Down : IFun := ⟨41, [.tmp 6], (.seq (.reg [⟨(some 6), (.mv (.const (.bool false))), none⟩]) (.seq (.reg [⟨(some 7), (.mv (.const (.bool false))), none⟩]) (.seq (.seq (.reg [⟨(some 10), (.mv (.tmp 0)), none⟩, ⟨(some 11), (.len false (.tmp 10)),
  none⟩, ⟨(some 12), (.mv (.const (.int .i64 0))), none⟩]) (.block 0 (.loop (.seq (.reg [⟨(some 13), (.bin .lss (.tmp 12) (.tmp 11)), none⟩]) (.seq (.cond (.tmp 13) .skip (.exit 0)) (.seq (.block 1 (.seq (.reg [⟨(some 14), (.iaddr
  3 (.tmp 10) (.tmp 12)), none⟩, ⟨(some 15), (.load true 3 (.tmp 14)), none⟩, ⟨(some 9), (.alloc 28 [.int .i64 0, .int .i64 0, .int .i64 0]), none⟩, ⟨none, (.store 3 (.tmp 9) (.tmp 15)), none⟩]) (.seq (.reg [⟨(some 16), (.faddr 2
  (.tmp 9)), none⟩, ⟨(some 17), (.load false 1 (.tmp 16)), none⟩, ⟨(some 18), (.mv (.tmp 1)), none⟩, ⟨(some 19), (.bin .eql (.tmp 17) (.tmp 18)), none⟩, ⟨(some 20), (.mv (.tmp 19)), none⟩, ⟨(some 21), (.faddr 0 (.tmp 9)), (some
  (20, true))⟩, ⟨(some 22), (.load false 1 (.tmp 21)), (some (20, true))⟩, ⟨(some 23), (.mv (.tmp 2)), (some (20, true))⟩, ⟨(some 24), (.bin .leq (.tmp 22) (.tmp 23)), (some (20, true))⟩, ⟨(some 25), (.pick (.tmp 20) (.tmp 24)
  (.const (.bool false))), none⟩, ⟨(some 26), (.mv (.tmp 25)), none⟩, ⟨(some 27), (.faddr 1 (.tmp 9)), (some (26, true))⟩, ⟨(some 28), (.load false 1 (.tmp 27)), (some (26, true))⟩, ⟨(some 29), (.bin .eql (.tmp 28) (.const (.int
  .i64 3))), (some (26, true))⟩, ⟨(some 30), (.mv (.tmp 29)), (some (26, true))⟩, ⟨(some 31), (.faddr 1 (.tmp 9)), (some (30, false))⟩, ⟨(some 32), (.load false 1 (.tmp 31)), (some (30, false))⟩, ⟨(some 33), (.bin .eql (.tmp 32)
  (.const (.int .i64 4))), (some (30, false))⟩, ⟨(some 34), (.pick (.tmp 30) (.const (.bool true)) (.tmp 33)), (some (26, true))⟩, ⟨(some 35), (.pick (.tmp 26) (.tmp 34) (.const (.bool false))), none⟩]) (.cond (.tmp 35) (.reg
  [⟨(some 36), (.faddr 1 (.tmp 9)), none⟩, ⟨(some 37), (.load false 1 (.tmp 36)), none⟩, ⟨(some 38), (.bin .eql (.tmp 37) (.const (.int .i64 3))), none⟩, ⟨(some 7), (.mv (.tmp 38)), none⟩]) .skip)))) (.reg [⟨(some 39), (.bin .add
  (.tmp 12) (.const (.int .i64 1))), none⟩, ⟨(some 12), (.mv (.tmp 39)), none⟩]))))))) (.seq (.reg [⟨(some 40), (.mv (.tmp 7)), none⟩, ⟨(some 6), (.mv (.tmp 40)), none⟩]) .ret))))⟩
theorem ok_fault_Down : compF eff Tryd.prog Tryd.f10 = some ir_fault_Down := by kernel_rfl
theorem fn_fault_Down : Tryd.prog.funcs[10]? = some Tryd.f10 := Tryd.func10
def ir_fault_At : IFun := ⟨24, [.tmp 4], (.seq (.reg [⟨(some 4), (.mv (.const (.slice none 0 0))), none⟩]) (.seq (.reg [⟨(some 5), (.mv (.const (.slice none 0 0))), none⟩]) (.seq (.seq (.reg [⟨(some 8), (.mv (.tmp 0)), none⟩, ⟨(some 9), (.len false (.tmp
  8)), none⟩, ⟨(some 10), (.mv (.const (.int .i64 0))), none⟩]) (.block 0 (.loop (.seq (.reg [⟨(some 11), (.bin .lss (.tmp 10) (.tmp 9)), none⟩]) (.seq (.cond (.tmp 11) .skip (.exit 0)) (.seq (.block 1 (.seq (.reg [⟨(some 12),
  (.iaddr 3 (.tmp 8) (.tmp 10)), none⟩, ⟨(some 13), (.load true 3 (.tmp 12)), none⟩, ⟨(some 7), (.alloc 28 [.int .i64 0, .int .i64 0, .int .i64 0]), none⟩, ⟨none, (.store 3 (.tmp 7) (.tmp 13)), none⟩]) (.seq (.reg [⟨(some 14),
  (.faddr 0 (.tmp 7)), none⟩, ⟨(some 15), (.load false 1 (.tmp 14)), none⟩, ⟨(some 16), (.mv (.tmp 1)), none⟩, ⟨(some 17), (.bin .eql (.tmp 15) (.tmp 16)), none⟩]) (.cond (.tmp 17) (.reg [⟨(some 18), (.mv (.tmp 5)), none⟩, ⟨(some
  19), (.load true 3 (.tmp 7)), none⟩, ⟨(some 20), (.bsl 28 3 1 [.int .i64 0, .int .i64 0, .int .i64 0] [(0, .tmp 19)]), none⟩, ⟨(some 21), (.app 28 3 24 (.tmp 18) (.tmp 20)), none⟩, ⟨(some 5), (.mv (.tmp 21)), none⟩]) .skip))))
  (.reg [⟨(some 22), (.bin .add (.tmp 10) (.const (.int .i64 1))), none⟩, ⟨(some 10), (.mv (.tmp 22)), none⟩]))))))) (.seq (.reg [⟨(some 23), (.mv (.tmp 5)), none⟩, ⟨(some 4), (.mv (.tmp 23)), none⟩]) .ret))))⟩
theorem ok_fault_At : compF eff Tryd.prog Tryd.f13 = some ir_fault_At := by kernel_rfl
theorem fn_fault_At : Tryd.prog.funcs[13]? = some Tryd.f13 := Tryd.func13
def ir_fault_Quiet : IFun := ⟨28, [.tmp 2], (.seq (.reg [⟨(some 2), (.mv (.const (.int .i64 0))), none⟩]) (.seq (.reg [⟨(some 3), (.mv (.const (.int .i64 0))), none⟩]) (.seq (.seq (.reg [⟨(some 7), (.mv (.tmp 0)), none⟩, ⟨(some 8), (.len false (.tmp 7)),
  none⟩, ⟨(some 9), (.mv (.const (.int .i64 0))), none⟩]) (.block 0 (.loop (.seq (.reg [⟨(some 10), (.bin .lss (.tmp 9) (.tmp 8)), none⟩]) (.seq (.cond (.tmp 10) .skip (.exit 0)) (.seq (.block 1 (.seq (.reg [⟨(some 11), (.iaddr 3
  (.tmp 7) (.tmp 9)), none⟩, ⟨(some 12), (.load true 3 (.tmp 11)), none⟩, ⟨(some 5), (.alloc 28 [.int .i64 0, .int .i64 0, .int .i64 0]), none⟩, ⟨none, (.store 3 (.tmp 5) (.tmp 12)), none⟩]) (.seq (.reg [⟨(some 13), (.faddr 0
  (.tmp 5)), none⟩, ⟨(some 14), (.load false 1 (.tmp 13)), none⟩, ⟨(some 15), (.bin .add (.tmp 14) (.const (.int .i64 1))), none⟩, ⟨(some 6), (.mv (.tmp 15)), none⟩]) (.seq (.seq (.reg [⟨(some 16), (.faddr 1 (.tmp 5)), none⟩,
  ⟨(some 17), (.load false 1 (.tmp 16)), none⟩, ⟨(some 18), (.bin .eql (.tmp 17) (.const (.int .i64 2))), none⟩]) (.cond (.tmp 18) (.reg [⟨(some 19), (.mv (.tmp 6)), none⟩, ⟨(some 20), (.faddr 2 (.tmp 5)), none⟩, ⟨(some 21),
  (.load false 1 (.tmp 20)), none⟩, ⟨(some 22), (.bin .add (.tmp 19) (.tmp 21)), none⟩, ⟨(some 6), (.mv (.tmp 22)), none⟩]) .skip)) (.reg [⟨(some 23), (.mv (.tmp 3)), none⟩, ⟨(some 24), (.mv (.tmp 6)), none⟩, ⟨(some 25), (.max
  (.tmp 23) (.tmp 24)), none⟩, ⟨(some 3), (.mv (.tmp 25)), none⟩]))))) (.reg [⟨(some 26), (.bin .add (.tmp 9) (.const (.int .i64 1))), none⟩, ⟨(some 9), (.mv (.tmp 26)), none⟩]))))))) (.seq (.reg [⟨(some 27), (.mv (.tmp 3)),
  none⟩, ⟨(some 2), (.mv (.tmp 27)), none⟩]) .ret))))⟩
theorem ok_fault_Quiet : compF eff Tryd.prog Tryd.f14 = some ir_fault_Quiet := by kernel_rfl
theorem fn_fault_Quiet : Tryd.prog.funcs[14]? = some Tryd.f14 := Tryd.func14
def ir_fault_Write : IFun := ⟨41, [.tmp 4, .tmp 5], (.seq (.reg [⟨(some 4), (.mv (.const (.string ⟨#[]⟩))), none⟩, ⟨(some 5), (.mv (.const (.int .i64 0))), none⟩]) (.seq (.seq (.reg [⟨(some 10), (.mv (.tmp 0)), none⟩, ⟨(some 11), (.mv (.tmp 1)), none⟩, ⟨(some
  12), (.call 8 [.tmp 10, .tmp 11]), none⟩, ⟨(some 6), (.mv (.tmp 12)), none⟩]) (.seq (.reg [⟨(some 13), (.mv (.tmp 6)), none⟩, ⟨(some 14), (.bin .neq (.tmp 13) (.const (.int .i64 0))), none⟩]) (.cond (.tmp 14) (.seq (.reg [⟨(some
  15), (.mv (.tmp 6)), none⟩, ⟨(some 4), (.mv (.const (.string ⟨#[]⟩))), none⟩, ⟨(some 5), (.mv (.tmp 15)), none⟩]) .ret) .skip))) (.seq (.reg [⟨(some 7), (.alloc 57 [.pointer none, .slice none 0 0]), none⟩]) (.seq (.seq (.reg
  [⟨(some 16), (.mv (.tmp 0)), none⟩, ⟨(some 17), (.len false (.tmp 16)), none⟩, ⟨(some 18), (.mv (.const (.int .i64 0))), none⟩]) (.block 0 (.loop (.seq (.reg [⟨(some 19), (.bin .lss (.tmp 18) (.tmp 17)), none⟩]) (.seq (.cond
  (.tmp 19) .skip (.exit 0)) (.seq (.block 1 (.seq (.reg [⟨(some 20), (.iaddr 3 (.tmp 16) (.tmp 18)), none⟩, ⟨(some 21), (.load true 3 (.tmp 20)), none⟩, ⟨(some 9), (.alloc 28 [.int .i64 0, .int .i64 0, .int .i64 0]), none⟩,
  ⟨none, (.store 3 (.tmp 9) (.tmp 21)), none⟩]) (.regd [.q, .q, .q, .q, .q, .q, .q, .q, .q, .q, .q, .q, .q, .q, .q, .q, .e none] [⟨(some 22), (.faddr 0 (.tmp 9)), none⟩, ⟨(some 23), (.load false 1 (.tmp 22)), none⟩, ⟨(some 24),
  (.call 29 [.tmp 23]), none⟩, ⟨(some 25), (.bin .add (.tmp 24) (.const (.string ⟨#[32]⟩))), none⟩, ⟨(some 26), (.call 25 []), none⟩, ⟨(some 27), (.faddr 1 (.tmp 9)), none⟩, ⟨(some 28), (.load false 1 (.tmp 27)), none⟩, ⟨(some
  29), (.iaddr 1 (.tmp 26) (.tmp 28)), none⟩, ⟨(some 30), (.load false 1 (.tmp 29)), none⟩, ⟨(some 31), (.bin .add (.tmp 25) (.tmp 30)), none⟩, ⟨(some 32), (.bin .add (.tmp 31) (.const (.string ⟨#[32]⟩))), none⟩, ⟨(some 33),
  (.faddr 2 (.tmp 9)), none⟩, ⟨(some 34), (.load false 1 (.tmp 33)), none⟩, ⟨(some 35), (.call 29 [.tmp 34]), none⟩, ⟨(some 36), (.bin .add (.tmp 32) (.tmp 35)), none⟩, ⟨(some 37), (.bin .add (.tmp 36) (.const (.string ⟨#[10]⟩))),
  none⟩, ⟨(some 38), (.call 28 [.tmp 7, .tmp 37]), none⟩]))) (.reg [⟨(some 39), (.bin .add (.tmp 18) (.const (.int .i64 1))), none⟩, ⟨(some 18), (.mv (.tmp 39)), none⟩]))))))) (.seq (.reg [⟨(some 40), (.call 30 [.tmp 7]), none⟩,
  ⟨(some 4), (.mv (.tmp 40)), none⟩, ⟨(some 5), (.mv (.const (.int .i64 0))), none⟩]) .ret)))))⟩
theorem ok_fault_Write : compF eff Tryd.prog Tryd.f20 = some ir_fault_Write := by kernel_rfl
theorem fn_fault_Write : Tryd.prog.funcs[20]? = some Tryd.f20 := Tryd.func20
def ir_fault_Read : IFun := ⟨81, [.tmp 4, .tmp 5], (.seq (.reg [⟨(some 4), (.mv (.const (.slice none 0 0))), none⟩, ⟨(some 5), (.mv (.const (.int .i64 0))), none⟩]) (.seq (.seq (.reg [⟨(some 17), (.mv (.tmp 0)), none⟩, ⟨(some 18), (.len true (.tmp 17)),
  none⟩, ⟨(some 19), (.bin .gtr (.tmp 18) (.const (.int .i64 2000))), none⟩]) (.cond (.tmp 19) (.seq (.reg [⟨(some 4), (.mv (.const (.slice none 0 0))), none⟩, ⟨(some 5), (.mv (.const (.int .i64 2))), none⟩]) .ret) .skip)) (.seq
  (.reg [⟨(some 6), (.mv (.const (.slice none 0 0))), none⟩]) (.seq (.block 0 (.loop (.seq (.seq (.reg [⟨(some 20), (.mv (.tmp 0)), none⟩, ⟨(some 21), (.bin .neq (.tmp 20) (.const (.string ⟨#[]⟩))), none⟩]) (.cond (.tmp 21) .skip
  (.exit 0))) (.block 1 (.seq (.reg [⟨(some 23), (.mv (.tmp 0)), none⟩, ⟨(some 24), (.call 32 [.tmp 23, .const (.string ⟨#[10]⟩)]), none⟩, ⟨(some 22), (.mv (.tmp 24)), none⟩, ⟨(some 25), (.ext (.tmp 22) 0), none⟩, ⟨(some 26),
  (.ext (.tmp 22) 1), none⟩, ⟨(some 27), (.ext (.tmp 22) 2), none⟩, ⟨(some 7), (.mv (.tmp 25)), none⟩, ⟨(some 8), (.mv (.tmp 26)), none⟩, ⟨(some 9), (.mv (.tmp 27)), none⟩]) (.seq (.reg [⟨(some 28), (.mv (.tmp 7)), none⟩, ⟨(some
  29), (.call 33 [.tmp 28, .const (.string ⟨#[32]⟩)]), none⟩, ⟨(some 10), (.mv (.tmp 29)), none⟩]) (.seq (.seq (.reg [⟨(some 30), (.mv (.tmp 9)), none⟩, ⟨(some 31), (.un .not (.tmp 30)), none⟩, ⟨(some 32), (.mv (.tmp 31)), none⟩,
  ⟨(some 33), (.mv (.tmp 10)), (some (32, false))⟩, ⟨(some 34), (.len false (.tmp 33)), (some (32, false))⟩, ⟨(some 35), (.bin .neq (.tmp 34) (.const (.int .i64 3))), (some (32, false))⟩, ⟨(some 36), (.pick (.tmp 32) (.const
  (.bool true)) (.tmp 35)), none⟩]) (.cond (.tmp 36) (.seq (.reg [⟨(some 4), (.mv (.const (.slice none 0 0))), none⟩, ⟨(some 5), (.mv (.const (.int .i64 15))), none⟩]) .ret) .skip)) (.seq (.reg [⟨(some 38), (.mv (.tmp 10)), none⟩,
  ⟨(some 39), (.iaddr 1 (.tmp 38) (.const (.int .i64 0))), none⟩, ⟨(some 40), (.load false 1 (.tmp 39)), none⟩, ⟨(some 41), (.call 34 [.tmp 40]), none⟩, ⟨(some 37), (.mv (.tmp 41)), none⟩, ⟨(some 42), (.ext (.tmp 37) 0), none⟩,
  ⟨(some 43), (.ext (.tmp 37) 1), none⟩, ⟨(some 11), (.mv (.tmp 42)), none⟩, ⟨(some 12), (.mv (.tmp 43)), none⟩]) (.seq (.reg [⟨(some 45), (.mv (.tmp 10)), none⟩, ⟨(some 46), (.iaddr 1 (.tmp 45) (.const (.int .i64 2))), none⟩,
  ⟨(some 47), (.load false 1 (.tmp 46)), none⟩, ⟨(some 48), (.call 34 [.tmp 47]), none⟩, ⟨(some 44), (.mv (.tmp 48)), none⟩, ⟨(some 49), (.ext (.tmp 44) 0), none⟩, ⟨(some 50), (.ext (.tmp 44) 1), none⟩, ⟨(some 13), (.mv (.tmp
  49)), none⟩, ⟨(some 14), (.mv (.tmp 50)), none⟩]) (.seq (.regd [.q, .q, .q, .q, .q, .q] [⟨(some 51), (.call 25 []), none⟩, ⟨(some 52), (.mv (.tmp 10)), none⟩, ⟨(some 53), (.iaddr 1 (.tmp 52) (.const (.int .i64 1))), none⟩,
  ⟨(some 54), (.load false 1 (.tmp 53)), none⟩, ⟨(some 55), (.call 35 [.tmp 51, .tmp 54]), none⟩, ⟨(some 15), (.mv (.tmp 55)), none⟩]) (.seq (.seq (.reg [⟨(some 56), (.mv (.tmp 12)), none⟩, ⟨(some 57), (.un .not (.tmp 56)), none⟩,
  ⟨(some 58), (.mv (.tmp 57)), none⟩, ⟨(some 59), (.mv (.tmp 14)), (some (58, false))⟩, ⟨(some 60), (.un .not (.tmp 59)), (some (58, false))⟩, ⟨(some 61), (.pick (.tmp 58) (.const (.bool true)) (.tmp 60)), none⟩, ⟨(some 62), (.mv
  (.tmp 61)), none⟩, ⟨(some 63), (.mv (.tmp 15)), (some (62, false))⟩, ⟨(some 64), (.bin .lss (.tmp 63) (.const (.int .i64 0))), (some (62, false))⟩, ⟨(some 65), (.pick (.tmp 62) (.const (.bool true)) (.tmp 64)), none⟩]) (.cond
  (.tmp 65) (.seq (.reg [⟨(some 4), (.mv (.const (.slice none 0 0))), none⟩, ⟨(some 5), (.mv (.const (.int .i64 15))), none⟩]) .ret) .skip)) (.reg [⟨(some 66), (.mv (.tmp 6)), none⟩, ⟨(some 67), (.mv (.tmp 11)), none⟩, ⟨(some 68),
  (.mv (.tmp 15)), none⟩, ⟨(some 69), (.mv (.tmp 13)), none⟩, ⟨(some 70), (.build [.int .i64 0, .int .i64 0, .int .i64 0] [(0, (1, .tmp 67)), (1, (1, .tmp 68)), (2, (1, .tmp 69))]), none⟩, ⟨(some 71), (.bsl 28 3 1 [.int .i64 0,
  .int .i64 0, .int .i64 0] [(0, .tmp 70)]), none⟩, ⟨(some 72), (.app 28 3 24 (.tmp 66) (.tmp 71)), none⟩, ⟨(some 73), (.mv (.tmp 8)), none⟩, ⟨(some 6), (.mv (.tmp 72)), none⟩, ⟨(some 0), (.mv (.tmp 73)), none⟩])))))))))))) (.seq
  (.seq (.reg [⟨(some 74), (.mv (.tmp 6)), none⟩, ⟨(some 75), (.mv (.tmp 1)), none⟩, ⟨(some 76), (.call 8 [.tmp 74, .tmp 75]), none⟩, ⟨(some 16), (.mv (.tmp 76)), none⟩]) (.seq (.reg [⟨(some 77), (.mv (.tmp 16)), none⟩, ⟨(some
  78), (.bin .neq (.tmp 77) (.const (.int .i64 0))), none⟩]) (.cond (.tmp 78) (.seq (.reg [⟨(some 79), (.mv (.tmp 16)), none⟩, ⟨(some 4), (.mv (.const (.slice none 0 0))), none⟩, ⟨(some 5), (.mv (.tmp 79)), none⟩]) .ret) .skip)))
  (.seq (.reg [⟨(some 80), (.mv (.tmp 6)), none⟩, ⟨(some 4), (.mv (.tmp 80)), none⟩, ⟨(some 5), (.mv (.const (.int .i64 0))), none⟩]) .ret))))))⟩
theorem ok_fault_Read : compF eff Tryd.prog Tryd.f22 = some ir_fault_Read := by kernel_rfl
theorem fn_fault_Read : Tryd.prog.funcs[22]? = some Tryd.f22 := Tryd.func22
def ir_fault_words : IFun := ⟨2, [.tmp 0], (.seq (.reg [⟨(some 0), (.mv (.const (.slice none 0 0))), none⟩]) (.seq (.reg [⟨(some 1), (.bsl 9 1 6 [.string ⟨#[]⟩] [(0, .const (.string ⟨#[108, 111, 115, 101]⟩)), (1, .const (.string ⟨#[116, 119, 105, 99, 101]⟩)),
  (2, .const (.string ⟨#[108, 97, 116, 101]⟩)), (3, .const (.string ⟨#[102, 97, 108, 108]⟩)), (4, .const (.string ⟨#[98, 97, 99, 107]⟩)), (5, .const (.string ⟨#[100, 114, 105, 102, 116]⟩))]), none⟩, ⟨(some 0), (.mv (.tmp 1)),
  none⟩]) .ret))⟩
theorem ok_fault_words : compF eff Tryd.prog Tryd.f25 = some ir_fault_words := by kernel_rfl
theorem fn_fault_words : Tryd.prog.funcs[25]? = some Tryd.f25 := Tryd.func25
def ir_fault_own : IFun := ⟨5, [.tmp 2], (.seq (.reg [⟨(some 2), (.mv (.const (.bool false))), none⟩]) (.seq (.reg [⟨(some 3), (.mv (.tmp 0)), none⟩, ⟨(some 4), (.bin .geq (.tmp 3) (.const (.int .i64 3))), none⟩, ⟨(some 2), (.mv (.tmp 4)), none⟩]) .ret))⟩
theorem ok_fault_own : compF eff Tryd.prog Tryd.f26 = some ir_fault_own := by kernel_rfl
theorem fn_fault_own : Tryd.prog.funcs[26]? = some Tryd.f26 := Tryd.func26
def ir_fault_number : IFun := ⟨24, [.tmp 2, .tmp 3], (.seq (.reg [⟨(some 2), (.mv (.const (.int .i64 0))), none⟩, ⟨(some 3), (.mv (.const (.bool false))), none⟩]) (.seq (.reg [⟨(some 7), (.mv (.tmp 0)), none⟩, ⟨(some 8), (.call 38 [.tmp 7]), none⟩, ⟨(some 6),
  (.mv (.tmp 8)), none⟩, ⟨(some 9), (.ext (.tmp 6) 0), none⟩, ⟨(some 10), (.ext (.tmp 6) 1), none⟩, ⟨(some 4), (.mv (.tmp 9)), none⟩, ⟨(some 5), (.mv (.tmp 10)), none⟩]) (.seq (.reg [⟨(some 11), (.mv (.tmp 4)), none⟩, ⟨(some 12),
  (.mv (.tmp 5)), none⟩, ⟨(some 13), (.isnil true false (.tmp 12)), none⟩, ⟨(some 14), (.mv (.tmp 13)), none⟩, ⟨(some 15), (.mv (.tmp 4)), (some (14, true))⟩, ⟨(some 16), (.bin .geq (.tmp 15) (.const (.int .i64 0))), (some (14,
  true))⟩, ⟨(some 17), (.pick (.tmp 14) (.tmp 16) (.const (.bool false))), none⟩, ⟨(some 18), (.mv (.tmp 17)), none⟩, ⟨(some 19), (.mv (.tmp 4)), (some (18, true))⟩, ⟨(some 20), (.call 29 [.tmp 19]), (some (18, true))⟩, ⟨(some
  21), (.mv (.tmp 0)), (some (18, true))⟩, ⟨(some 22), (.bin .eql (.tmp 20) (.tmp 21)), (some (18, true))⟩, ⟨(some 23), (.pick (.tmp 18) (.tmp 22) (.const (.bool false))), none⟩, ⟨(some 2), (.mv (.tmp 11)), none⟩, ⟨(some 3), (.mv
  (.tmp 23)), none⟩]) .ret)))⟩
theorem ok_fault_number : compF eff Tryd.prog Tryd.f34 = some ir_fault_number := by kernel_rfl
theorem fn_fault_number : Tryd.prog.funcs[34]? = some Tryd.f34 := Tryd.func34
def ir_gantref2_Faults : IFun := ⟨87, [.tmp 4], (.seq (.reg [⟨(some 4), (.mv (.const (.int .i64 0))), none⟩]) (.seq (.seq (.reg [⟨(some 9), (.mv (.tmp 0)), none⟩, ⟨(some 10), (.len false (.tmp 9)), none⟩, ⟨(some 11), (.bin .gtr (.tmp 10) (.const (.int .i64 40))),
  none⟩]) (.cond (.tmp 11) (.seq (.reg [⟨(some 4), (.mv (.const (.int .i64 2))), none⟩]) .ret) .skip)) (.seq (.reg [⟨(some 5), (.mv (.const (.int .i64 0))), none⟩]) (.seq (.seq (.reg [⟨(some 12), (.mv (.tmp 0)), none⟩, ⟨(some 13),
  (.len false (.tmp 12)), none⟩, ⟨(some 14), (.mv (.const (.int .i64 0))), none⟩]) (.block 0 (.loop (.seq (.reg [⟨(some 15), (.bin .lss (.tmp 14) (.tmp 13)), none⟩]) (.seq (.cond (.tmp 15) .skip (.exit 0)) (.seq (.block 1 (.seq
  (.reg [⟨(some 16), (.mv (.tmp 14)), none⟩, ⟨(some 17), (.iaddr 3 (.tmp 12) (.tmp 14)), none⟩, ⟨(some 18), (.load true 3 (.tmp 17)), none⟩, ⟨(some 7), (.alloc 28 [.int .i64 0, .int .i64 0, .int .i64 0]), none⟩, ⟨(some 6), (.mv
  (.tmp 16)), none⟩, ⟨none, (.store 3 (.tmp 7) (.tmp 18)), none⟩]) (.seq (.seq (.reg [⟨(some 19), (.faddr 0 (.tmp 7)), none⟩, ⟨(some 20), (.load false 1 (.tmp 19)), none⟩, ⟨(some 21), (.bin .lss (.tmp 20) (.const (.int .i64 0))),
  none⟩, ⟨(some 22), (.mv (.tmp 21)), none⟩, ⟨(some 23), (.faddr 0 (.tmp 7)), (some (22, false))⟩, ⟨(some 24), (.load false 1 (.tmp 23)), (some (22, false))⟩, ⟨(some 25), (.bin .gtr (.tmp 24) (.const (.int .i64 2000))), (some (22,
  false))⟩, ⟨(some 26), (.pick (.tmp 22) (.const (.bool true)) (.tmp 25)), none⟩]) (.cond (.tmp 26) (.seq (.reg [⟨(some 4), (.mv (.const (.int .i64 1))), none⟩]) .ret) .skip)) (.seq (.seq (.reg [⟨(some 27), (.faddr 1 (.tmp 7)),
  none⟩, ⟨(some 28), (.load false 1 (.tmp 27)), none⟩, ⟨(some 29), (.bin .lss (.tmp 28) (.const (.int .i64 0))), none⟩, ⟨(some 30), (.mv (.tmp 29)), none⟩, ⟨(some 31), (.faddr 1 (.tmp 7)), (some (30, false))⟩, ⟨(some 32), (.load
  false 1 (.tmp 31)), (some (30, false))⟩, ⟨(some 33), (.bin .gtr (.tmp 32) (.const (.int .i64 5))), (some (30, false))⟩, ⟨(some 34), (.pick (.tmp 30) (.const (.bool true)) (.tmp 33)), none⟩]) (.cond (.tmp 34) (.seq (.reg [⟨(some
  4), (.mv (.const (.int .i64 3))), none⟩]) .ret) .skip)) (.seq (.seq (.reg [⟨(some 35), (.faddr 2 (.tmp 7)), none⟩, ⟨(some 36), (.load false 1 (.tmp 35)), none⟩, ⟨(some 37), (.bin .lss (.tmp 36) (.const (.int .i64 0))), none⟩,
  ⟨(some 38), (.mv (.tmp 37)), none⟩, ⟨(some 39), (.faddr 1 (.tmp 7)), (some (38, false))⟩, ⟨(some 40), (.load false 1 (.tmp 39)), (some (38, false))⟩, ⟨(some 41), (.bin .lss (.tmp 40) (.const (.int .i64 3))), (some (38, false))⟩,
  ⟨(some 42), (.mv (.tmp 41)), (some (38, false))⟩, ⟨(some 43), (.faddr 2 (.tmp 7)), (some (42, true))⟩, ⟨(some 44), (.load false 1 (.tmp 43)), (some (42, true))⟩, ⟨(some 45), (.bin .gtr (.tmp 44) (.const (.int .i64 40))), (some
  (42, true))⟩, ⟨(some 46), (.pick (.tmp 42) (.tmp 45) (.const (.bool false))), (some (38, false))⟩, ⟨(some 47), (.pick (.tmp 38) (.const (.bool true)) (.tmp 46)), none⟩, ⟨(some 48), (.mv (.tmp 47)), none⟩, ⟨(some 49), (.faddr 1
  (.tmp 7)), (some (48, false))⟩, ⟨(some 50), (.load false 1 (.tmp 49)), (some (48, false))⟩, ⟨(some 51), (.bin .geq (.tmp 50) (.const (.int .i64 3))), (some (48, false))⟩, ⟨(some 52), (.mv (.tmp 51)), (some (48, false))⟩, ⟨(some
  53), (.faddr 2 (.tmp 7)), (some (52, true))⟩, ⟨(some 54), (.load false 1 (.tmp 53)), (some (52, true))⟩, ⟨(some 55), (.mv (.tmp 1)), (some (52, true))⟩, ⟨(some 56), (.bin .geq (.tmp 54) (.tmp 55)), (some (52, true))⟩, ⟨(some
  57), (.pick (.tmp 52) (.tmp 56) (.const (.bool false))), (some (48, false))⟩, ⟨(some 58), (.pick (.tmp 48) (.const (.bool true)) (.tmp 57)), none⟩]) (.cond (.tmp 58) (.seq (.reg [⟨(some 4), (.mv (.const (.int .i64 1))), none⟩])
  .ret) .skip)) (.seq (.seq (.reg [⟨(some 59), (.faddr 0 (.tmp 7)), none⟩, ⟨(some 60), (.load false 1 (.tmp 59)), none⟩, ⟨(some 61), (.mv (.tmp 5)), none⟩, ⟨(some 62), (.bin .lss (.tmp 60) (.tmp 61)), none⟩]) (.cond (.tmp 62)
  (.seq (.reg [⟨(some 4), (.mv (.const (.int .i64 9))), none⟩]) .ret) .skip)) (.seq (.reg [⟨(some 63), (.faddr 0 (.tmp 7)), none⟩, ⟨(some 64), (.load false 1 (.tmp 63)), none⟩, ⟨(some 5), (.mv (.tmp 64)), none⟩]) (.seq (.regd [.q,
  .q, .q, .q, .q, .q, .q] [⟨(some 65), (.mv (.tmp 0)), none⟩, ⟨(some 66), (.mv (.tmp 6)), none⟩, ⟨(some 67), (.slcl 3 (.tmp 65) none (some (.tmp 66))), none⟩, ⟨(some 68), (.faddr 2 (.tmp 7)), none⟩, ⟨(some 69), (.load false 1
  (.tmp 68)), none⟩, ⟨(some 70), (.call 11 [.tmp 67, .tmp 69, .const (.int .i64 2000)]), none⟩, ⟨(some 8), (.mv (.tmp 70)), none⟩]) (.seq (.reg [⟨(some 71), (.faddr 1 (.tmp 7)), none⟩, ⟨(some 72), (.load false 1 (.tmp 71)), none⟩,
  ⟨(some 73), (.bin .eql (.tmp 72) (.const (.int .i64 3))), none⟩, ⟨(some 74), (.mv (.tmp 73)), none⟩, ⟨(some 75), (.mv (.tmp 8)), (some (74, true))⟩, ⟨(some 76), (.pick (.tmp 74) (.tmp 75) (.const (.bool false))), none⟩, ⟨(some
  77), (.mv (.tmp 76)), none⟩, ⟨(some 78), (.faddr 1 (.tmp 7)), (some (77, false))⟩, ⟨(some 79), (.load false 1 (.tmp 78)), (some (77, false))⟩, ⟨(some 80), (.bin .eql (.tmp 79) (.const (.int .i64 4))), (some (77, false))⟩, ⟨(some
  81), (.mv (.tmp 80)), (some (77, false))⟩, ⟨(some 82), (.mv (.tmp 8)), (some (81, true))⟩, ⟨(some 83), (.un .not (.tmp 82)), (some (81, true))⟩, ⟨(some 84), (.pick (.tmp 81) (.tmp 83) (.const (.bool false))), (some (77,
  false))⟩, ⟨(some 85), (.pick (.tmp 77) (.const (.bool true)) (.tmp 84)), none⟩]) (.cond (.tmp 85) (.seq (.reg [⟨(some 4), (.mv (.const (.int .i64 7))), none⟩]) .ret) .skip)))))))))) (.reg [⟨(some 86), (.bin .add (.tmp 14)
  (.const (.int .i64 1))), none⟩, ⟨(some 14), (.mv (.tmp 86)), none⟩]))))))) (.seq (.reg [⟨(some 4), (.mv (.const (.int .i64 0))), none⟩]) .ret)))))⟩
theorem ok_gantref2_Faults : compF eff Tryd.prog Tryd.f9 = some ir_gantref2_Faults := by kernel_rfl
theorem fn_gantref2_Faults : Tryd.prog.funcs[9]? = some Tryd.f9 := Tryd.func9
def ir_gantref2_Down : IFun := ⟨43, [.tmp 6], (.seq (.reg [⟨(some 6), (.mv (.const (.bool false))), none⟩]) (.seq (.seq (.reg [⟨(some 9), (.mv (.tmp 0)), none⟩, ⟨(some 10), (.len false (.tmp 9)), none⟩, ⟨(some 11), (.bin .sub (.tmp 10) (.const (.int .i64 1))),
  none⟩, ⟨(some 7), (.mv (.tmp 11)), none⟩]) (.block 0 (.loop (.seq (.seq (.reg [⟨(some 12), (.mv (.tmp 7)), none⟩, ⟨(some 13), (.bin .geq (.tmp 12) (.const (.int .i64 0))), none⟩]) (.cond (.tmp 13) .skip (.exit 0))) (.seq (.block
  1 (.seq (.reg [⟨(some 16), (.mv (.tmp 0)), none⟩, ⟨(some 17), (.mv (.tmp 7)), none⟩, ⟨(some 18), (.iaddr 3 (.tmp 16) (.tmp 17)), none⟩, ⟨(some 19), (.load true 3 (.tmp 18)), none⟩, ⟨(some 8), (.alloc 28 [.int .i64 0, .int .i64
  0, .int .i64 0]), none⟩, ⟨none, (.store 3 (.tmp 8) (.tmp 19)), none⟩]) (.seq (.reg [⟨(some 20), (.faddr 2 (.tmp 8)), none⟩, ⟨(some 21), (.load false 1 (.tmp 20)), none⟩, ⟨(some 22), (.mv (.tmp 1)), none⟩, ⟨(some 23), (.bin .eql
  (.tmp 21) (.tmp 22)), none⟩, ⟨(some 24), (.mv (.tmp 23)), none⟩, ⟨(some 25), (.faddr 0 (.tmp 8)), (some (24, true))⟩, ⟨(some 26), (.load false 1 (.tmp 25)), (some (24, true))⟩, ⟨(some 27), (.mv (.tmp 2)), (some (24, true))⟩,
  ⟨(some 28), (.bin .leq (.tmp 26) (.tmp 27)), (some (24, true))⟩, ⟨(some 29), (.pick (.tmp 24) (.tmp 28) (.const (.bool false))), none⟩, ⟨(some 30), (.mv (.tmp 29)), none⟩, ⟨(some 31), (.faddr 1 (.tmp 8)), (some (30, true))⟩,
  ⟨(some 32), (.load false 1 (.tmp 31)), (some (30, true))⟩, ⟨(some 33), (.bin .eql (.tmp 32) (.const (.int .i64 3))), (some (30, true))⟩, ⟨(some 34), (.mv (.tmp 33)), (some (30, true))⟩, ⟨(some 35), (.faddr 1 (.tmp 8)), (some
  (34, false))⟩, ⟨(some 36), (.load false 1 (.tmp 35)), (some (34, false))⟩, ⟨(some 37), (.bin .eql (.tmp 36) (.const (.int .i64 4))), (some (34, false))⟩, ⟨(some 38), (.pick (.tmp 34) (.const (.bool true)) (.tmp 37)), (some (30,
  true))⟩, ⟨(some 39), (.pick (.tmp 30) (.tmp 38) (.const (.bool false))), none⟩]) (.cond (.tmp 39) (.seq (.reg [⟨(some 40), (.faddr 1 (.tmp 8)), none⟩, ⟨(some 41), (.load false 1 (.tmp 40)), none⟩, ⟨(some 42), (.bin .eql (.tmp
  41) (.const (.int .i64 3))), none⟩, ⟨(some 6), (.mv (.tmp 42)), none⟩]) .ret) .skip)))) (.reg [⟨(some 14), (.mv (.tmp 7)), none⟩, ⟨(some 15), (.bin .sub (.tmp 14) (.const (.int .i64 1))), none⟩, ⟨(some 7), (.mv (.tmp 15)),
  none⟩])))))) (.seq (.reg [⟨(some 6), (.mv (.const (.bool false))), none⟩]) .ret)))⟩
theorem ok_gantref2_Down : compF eff Tryd.prog Tryd.f11 = some ir_gantref2_Down := by kernel_rfl
theorem fn_gantref2_Down : Tryd.prog.funcs[11]? = some Tryd.f11 := Tryd.func11
def ir_gantref2_Script : IFun := ⟨32, [.tmp 2], (.seq (.reg [⟨(some 2), (.mv (.const (.string ⟨#[]⟩))), none⟩]) (.seq (.reg [⟨(some 3), (.mv (.const (.string ⟨#[]⟩))), none⟩]) (.seq (.seq (.reg [⟨(some 6), (.mv (.tmp 0)), none⟩, ⟨(some 7), (.len false (.tmp 6)),
  none⟩, ⟨(some 8), (.mv (.const (.int .i64 0))), none⟩]) (.block 0 (.loop (.seq (.reg [⟨(some 9), (.bin .lss (.tmp 8) (.tmp 7)), none⟩]) (.seq (.cond (.tmp 9) .skip (.exit 0)) (.seq (.block 1 (.seq (.reg [⟨(some 10), (.iaddr 3
  (.tmp 6) (.tmp 8)), none⟩, ⟨(some 11), (.load true 3 (.tmp 10)), none⟩, ⟨(some 5), (.alloc 28 [.int .i64 0, .int .i64 0, .int .i64 0]), none⟩, ⟨none, (.store 3 (.tmp 5) (.tmp 11)), none⟩]) (.regd [.q, .q, .q, .q, .q, .q, .q, .q,
  .q, .q, .q, .q, .q, .q, .q, .q, .q, .q, .q] [⟨(some 12), (.mv (.tmp 3)), none⟩, ⟨(some 13), (.faddr 0 (.tmp 5)), none⟩, ⟨(some 14), (.load false 1 (.tmp 13)), none⟩, ⟨(some 15), (.call 29 [.tmp 14]), none⟩, ⟨(some 16), (.bin
  .add (.tmp 15) (.const (.string ⟨#[32]⟩))), none⟩, ⟨(some 17), (.call 31 []), none⟩, ⟨(some 18), (.faddr 1 (.tmp 5)), none⟩, ⟨(some 19), (.load false 1 (.tmp 18)), none⟩, ⟨(some 20), (.iaddr 1 (.tmp 17) (.tmp 19)), none⟩, ⟨(some
  21), (.load false 1 (.tmp 20)), none⟩, ⟨(some 22), (.bin .add (.tmp 16) (.tmp 21)), none⟩, ⟨(some 23), (.bin .add (.tmp 22) (.const (.string ⟨#[32]⟩))), none⟩, ⟨(some 24), (.faddr 2 (.tmp 5)), none⟩, ⟨(some 25), (.load false 1
  (.tmp 24)), none⟩, ⟨(some 26), (.call 29 [.tmp 25]), none⟩, ⟨(some 27), (.bin .add (.tmp 23) (.tmp 26)), none⟩, ⟨(some 28), (.bin .add (.tmp 27) (.const (.string ⟨#[10]⟩))), none⟩, ⟨(some 29), (.bin .add (.tmp 12) (.tmp 28)),
  none⟩, ⟨(some 3), (.mv (.tmp 29)), none⟩]))) (.reg [⟨(some 30), (.bin .add (.tmp 8) (.const (.int .i64 1))), none⟩, ⟨(some 8), (.mv (.tmp 30)), none⟩]))))))) (.seq (.reg [⟨(some 31), (.mv (.tmp 3)), none⟩, ⟨(some 2), (.mv (.tmp
  31)), none⟩]) .ret))))⟩
theorem ok_gantref2_Script : compF eff Tryd.prog Tryd.f21 = some ir_gantref2_Script := by kernel_rfl
theorem fn_gantref2_Script : Tryd.prog.funcs[21]? = some Tryd.f21 := Tryd.func21
def ir_gantref2_Scripted : IFun := ⟨88, [.tmp 2, .tmp 3], (.seq (.reg [⟨(some 2), (.mv (.const (.slice none 0 0))), none⟩, ⟨(some 3), (.mv (.const (.bool false))), none⟩]) (.seq (.reg [⟨(some 4), (.mv (.const (.slice none 0 0))), none⟩]) (.seq (.block 0 (.loop
  (.seq (.seq (.reg [⟨(some 12), (.mv (.tmp 0)), none⟩, ⟨(some 13), (.bin .neq (.tmp 12) (.const (.string ⟨#[]⟩))), none⟩]) (.cond (.tmp 13) .skip (.exit 0))) (.block 1 (.seq (.reg [⟨(some 14), (.mv (.tmp 0)), none⟩, ⟨(some 15),
  (.call 36 [.tmp 14, .const (.int .u8 10)]), none⟩, ⟨(some 5), (.mv (.tmp 15)), none⟩]) (.seq (.seq (.reg [⟨(some 16), (.mv (.tmp 5)), none⟩, ⟨(some 17), (.bin .lss (.tmp 16) (.const (.int .i64 0))), none⟩]) (.cond (.tmp 17)
  (.seq (.reg [⟨(some 2), (.mv (.const (.slice none 0 0))), none⟩, ⟨(some 3), (.mv (.const (.bool false))), none⟩]) .ret) .skip)) (.seq (.reg [⟨(some 18), (.mv (.tmp 0)), none⟩, ⟨(some 19), (.mv (.tmp 5)), none⟩, ⟨(some 20),
  (.slcs (.tmp 18) none (some (.tmp 19))), none⟩, ⟨(some 21), (.call 33 [.tmp 20, .const (.string ⟨#[32]⟩)]), none⟩, ⟨(some 6), (.mv (.tmp 21)), none⟩]) (.seq (.seq (.regd [.q, .q, .q, .q, .q, .q, .q, .q, .q, .q, .q] [⟨(some 22),
  (.mv (.tmp 6)), none⟩, ⟨(some 23), (.len false (.tmp 22)), none⟩, ⟨(some 24), (.bin .neq (.tmp 23) (.const (.int .i64 3))), none⟩, ⟨(some 25), (.mv (.tmp 24)), none⟩, ⟨(some 26), (.call 31 []), (some (25, false))⟩, ⟨(some 27),
  (.mv (.tmp 6)), (some (25, false))⟩, ⟨(some 28), (.iaddr 1 (.tmp 27) (.const (.int .i64 1))), (some (25, false))⟩, ⟨(some 29), (.load false 1 (.tmp 28)), (some (25, false))⟩, ⟨(some 30), (.call 37 [.tmp 26, .tmp 29]), (some (25,
  false))⟩, ⟨(some 31), (.un .not (.tmp 30)), (some (25, false))⟩, ⟨(some 32), (.pick (.tmp 25) (.const (.bool true)) (.tmp 31)), none⟩]) (.cond (.tmp 32) (.seq (.reg [⟨(some 2), (.mv (.const (.slice none 0 0))), none⟩, ⟨(some 3),
  (.mv (.const (.bool false))), none⟩]) .ret) .skip)) (.seq (.reg [⟨(some 34), (.mv (.tmp 6)), none⟩, ⟨(some 35), (.iaddr 1 (.tmp 34) (.const (.int .i64 0))), none⟩, ⟨(some 36), (.load false 1 (.tmp 35)), none⟩, ⟨(some 37), (.call
  38 [.tmp 36]), none⟩, ⟨(some 33), (.mv (.tmp 37)), none⟩, ⟨(some 38), (.ext (.tmp 33) 0), none⟩, ⟨(some 39), (.ext (.tmp 33) 1), none⟩, ⟨(some 7), (.mv (.tmp 38)), none⟩, ⟨(some 8), (.mv (.tmp 39)), none⟩]) (.seq (.reg [⟨(some
  41), (.mv (.tmp 6)), none⟩, ⟨(some 42), (.iaddr 1 (.tmp 41) (.const (.int .i64 2))), none⟩, ⟨(some 43), (.load false 1 (.tmp 42)), none⟩, ⟨(some 44), (.call 38 [.tmp 43]), none⟩, ⟨(some 40), (.mv (.tmp 44)), none⟩, ⟨(some 45),
  (.ext (.tmp 40) 0), none⟩, ⟨(some 46), (.ext (.tmp 40) 1), none⟩, ⟨(some 9), (.mv (.tmp 45)), none⟩, ⟨(some 10), (.mv (.tmp 46)), none⟩]) (.seq (.regd [.q, .q, .q, .q, .q, .q, .q, .q, .a, .e (some 11)] [⟨(some 47), (.mv (.tmp
  7)), none⟩, ⟨(some 48), (.call 31 []), none⟩, ⟨(some 49), (.mv (.tmp 6)), none⟩, ⟨(some 50), (.iaddr 1 (.tmp 49) (.const (.int .i64 1))), none⟩, ⟨(some 51), (.load false 1 (.tmp 50)), none⟩, ⟨(some 52), (.call 35 [.tmp 48, .tmp
  51]), none⟩, ⟨(some 53), (.mv (.tmp 9)), none⟩, ⟨(some 54), (.build [.int .i64 0, .int .i64 0, .int .i64 0] [(0, (1, .tmp 47)), (1, (1, .tmp 52)), (2, (1, .tmp 53))]), none⟩, ⟨(some 11), (.alloc 28 [.int .i64 0, .int .i64 0,
  .int .i64 0]), none⟩, ⟨none, (.store 3 (.tmp 11) (.tmp 54)), none⟩]) (.seq (.seq (.regd [.q, .q, .q, .q, .q, .q, .q, .q, .q, .q, .q, .q, .q, .q, .q, .q, .q, .q, .q, .q, .q, .q, .q, .q] [⟨(some 55), (.mv (.tmp 8)), none⟩, ⟨(some
  56), (.isnil true true (.tmp 55)), none⟩, ⟨(some 57), (.mv (.tmp 56)), none⟩, ⟨(some 58), (.mv (.tmp 10)), (some (57, false))⟩, ⟨(some 59), (.isnil true true (.tmp 58)), (some (57, false))⟩, ⟨(some 60), (.pick (.tmp 57) (.const
  (.bool true)) (.tmp 59)), none⟩, ⟨(some 61), (.mv (.tmp 60)), none⟩, ⟨(some 62), (.mv (.tmp 7)), (some (61, false))⟩, ⟨(some 63), (.bin .lss (.tmp 62) (.const (.int .i64 0))), (some (61, false))⟩, ⟨(some 64), (.pick (.tmp 61)
  (.const (.bool true)) (.tmp 63)), none⟩, ⟨(some 65), (.mv (.tmp 64)), none⟩, ⟨(some 66), (.mv (.tmp 9)), (some (65, false))⟩, ⟨(some 67), (.bin .lss (.tmp 66) (.const (.int .i64 0))), (some (65, false))⟩, ⟨(some 68), (.pick
  (.tmp 65) (.const (.bool true)) (.tmp 67)), none⟩, ⟨(some 69), (.mv (.tmp 68)), none⟩, ⟨(some 70), (.load true 3 (.tmp 11)), (some (69, false))⟩, ⟨(some 71), (.bsl 28 3 1 [.int .i64 0, .int .i64 0, .int .i64 0] [(0, .tmp 70)]),
  (some (69, false))⟩, ⟨(some 72), (.call 21 [.tmp 71]), (some (69, false))⟩, ⟨(some 73), (.mv (.tmp 0)), (some (69, false))⟩, ⟨(some 74), (.mv (.tmp 5)), (some (69, false))⟩, ⟨(some 75), (.bin .add (.tmp 74) (.const (.int .i64
  1))), (some (69, false))⟩, ⟨(some 76), (.slcs (.tmp 73) none (some (.tmp 75))), (some (69, false))⟩, ⟨(some 77), (.bin .neq (.tmp 72) (.tmp 76)), (some (69, false))⟩, ⟨(some 78), (.pick (.tmp 69) (.const (.bool true)) (.tmp
  77)), none⟩]) (.cond (.tmp 78) (.seq (.reg [⟨(some 2), (.mv (.const (.slice none 0 0))), none⟩, ⟨(some 3), (.mv (.const (.bool false))), none⟩]) .ret) .skip)) (.regd [.q, .q, .q, .e none, .f, .f, .f, .f, .q, .q] [⟨(some 79),
  (.mv (.tmp 4)), none⟩, ⟨(some 80), (.load true 3 (.tmp 11)), none⟩, ⟨(some 81), (.bsl 28 3 1 [.int .i64 0, .int .i64 0, .int .i64 0] [(0, .tmp 80)]), none⟩, ⟨(some 82), (.app 28 3 24 (.tmp 79) (.tmp 81)), none⟩, ⟨(some 83), (.mv
  (.tmp 0)), none⟩, ⟨(some 84), (.mv (.tmp 5)), none⟩, ⟨(some 85), (.bin .add (.tmp 84) (.const (.int .i64 1))), none⟩, ⟨(some 86), (.slcs (.tmp 83) (some (.tmp 85)) none), none⟩, ⟨(some 4), (.mv (.tmp 82)), none⟩, ⟨(some 0), (.mv
  (.tmp 86)), none⟩]))))))))))))) (.seq (.reg [⟨(some 87), (.mv (.tmp 4)), none⟩, ⟨(some 2), (.mv (.tmp 87)), none⟩, ⟨(some 3), (.mv (.const (.bool true))), none⟩]) .ret))))⟩
theorem ok_gantref2_Scripted : compF eff Tryd.prog Tryd.f23 = some ir_gantref2_Scripted := by kernel_rfl
theorem fn_gantref2_Scripted : Tryd.prog.funcs[23]? = some Tryd.f23 := Tryd.func23
def ir_gantref2_words : IFun := ⟨2, [.tmp 0], (.seq (.reg [⟨(some 0), (.mv (.const (.slice none 0 0))), none⟩]) (.seq (.reg [⟨(some 1), (.bsl 9 1 6 [.string ⟨#[]⟩] [(0, .const (.string ⟨#[108, 111, 115, 101]⟩)), (1, .const (.string ⟨#[116, 119, 105, 99, 101]⟩)),
  (2, .const (.string ⟨#[108, 97, 116, 101]⟩)), (3, .const (.string ⟨#[102, 97, 108, 108]⟩)), (4, .const (.string ⟨#[98, 97, 99, 107]⟩)), (5, .const (.string ⟨#[100, 114, 105, 102, 116]⟩))]), none⟩, ⟨(some 0), (.mv (.tmp 1)),
  none⟩]) .ret))⟩
theorem ok_gantref2_words : compF eff Tryd.prog Tryd.f31 = some ir_gantref2_words := by kernel_rfl
theorem fn_gantref2_words : Tryd.prog.funcs[31]? = some Tryd.f31 := Tryd.func31
def ir_gantlaw2_FaultChecks : IFun := ⟨82, [.tmp 8], (.seq (.reg [⟨(some 8), (.mv (.const (.bool false))), none⟩]) (.seq (.seq (.reg [⟨(some 13), (.call 7 []), none⟩, ⟨(some 14), (.un .not (.tmp 13)), none⟩, ⟨(some 15), (.mv (.tmp 14)), none⟩, ⟨(some 16), (.mv (.tmp
  0)), (some (15, false))⟩, ⟨(some 17), (.mv (.tmp 1)), (some (15, false))⟩, ⟨(some 18), (.call 8 [.tmp 16, .tmp 17]), (some (15, false))⟩, ⟨(some 19), (.mv (.tmp 0)), (some (15, false))⟩, ⟨(some 20), (.mv (.tmp 1)), (some (15,
  false))⟩, ⟨(some 21), (.call 9 [.tmp 19, .tmp 20]), (some (15, false))⟩, ⟨(some 22), (.bin .neq (.tmp 18) (.tmp 21)), (some (15, false))⟩, ⟨(some 23), (.pick (.tmp 15) (.const (.bool true)) (.tmp 22)), none⟩, ⟨(some 24), (.mv
  (.tmp 23)), none⟩, ⟨(some 25), (.mv (.tmp 0)), (some (24, false))⟩, ⟨(some 26), (.mv (.tmp 2)), (some (24, false))⟩, ⟨(some 27), (.mv (.tmp 3)), (some (24, false))⟩, ⟨(some 28), (.call 10 [.tmp 25, .tmp 26, .tmp 27]), (some (24,
  false))⟩, ⟨(some 29), (.mv (.tmp 0)), (some (24, false))⟩, ⟨(some 30), (.mv (.tmp 2)), (some (24, false))⟩, ⟨(some 31), (.mv (.tmp 3)), (some (24, false))⟩, ⟨(some 32), (.call 11 [.tmp 29, .tmp 30, .tmp 31]), (some (24,
  false))⟩, ⟨(some 33), (.beq true (.tmp 28) (.tmp 32)), (some (24, false))⟩, ⟨(some 34), (.pick (.tmp 24) (.const (.bool true)) (.tmp 33)), none⟩]) (.cond (.tmp 34) (.seq (.reg [⟨(some 8), (.mv (.const (.bool false))), none⟩])
  .ret) .skip)) (.seq (.reg [⟨(some 9), (.mv (.const (.slice none 0 0))), none⟩]) (.seq (.reg [⟨(some 10), (.mv (.const (.int .i64 0))), none⟩]) (.seq (.seq (.reg [⟨(some 35), (.mv (.tmp 0)), none⟩, ⟨(some 36), (.len false (.tmp
  35)), none⟩, ⟨(some 37), (.mv (.const (.int .i64 0))), none⟩]) (.block 0 (.loop (.seq (.reg [⟨(some 38), (.bin .lss (.tmp 37) (.tmp 36)), none⟩]) (.seq (.cond (.tmp 38) .skip (.exit 0)) (.seq (.block 1 (.seq (.reg [⟨(some 39),
  (.iaddr 3 (.tmp 35) (.tmp 37)), none⟩, ⟨(some 40), (.load true 3 (.tmp 39)), none⟩, ⟨(some 12), (.alloc 28 [.int .i64 0, .int .i64 0, .int .i64 0]), none⟩, ⟨none, (.store 3 (.tmp 12) (.tmp 40)), none⟩]) (.seq (.seq (.reg [⟨(some
  41), (.faddr 0 (.tmp 12)), none⟩, ⟨(some 42), (.load false 1 (.tmp 41)), none⟩, ⟨(some 43), (.mv (.tmp 3)), none⟩, ⟨(some 44), (.bin .eql (.tmp 42) (.tmp 43)), none⟩]) (.cond (.tmp 44) (.reg [⟨(some 45), (.mv (.tmp 9)), none⟩,
  ⟨(some 46), (.load true 3 (.tmp 12)), none⟩, ⟨(some 47), (.bsl 28 3 1 [.int .i64 0, .int .i64 0, .int .i64 0] [(0, .tmp 46)]), none⟩, ⟨(some 48), (.app 28 3 24 (.tmp 45) (.tmp 47)), none⟩, ⟨(some 9), (.mv (.tmp 48)), none⟩])
  .skip)) (.seq (.seq (.reg [⟨(some 49), (.faddr 1 (.tmp 12)), none⟩, ⟨(some 50), (.load false 1 (.tmp 49)), none⟩, ⟨(some 51), (.bin .eql (.tmp 50) (.const (.int .i64 2))), none⟩]) (.cond (.tmp 51) (.reg [⟨(some 52), (.mv (.tmp
  10)), none⟩, ⟨(some 53), (.faddr 0 (.tmp 12)), none⟩, ⟨(some 54), (.load false 1 (.tmp 53)), none⟩, ⟨(some 55), (.bin .add (.tmp 54) (.const (.int .i64 1))), none⟩, ⟨(some 56), (.faddr 2 (.tmp 12)), none⟩, ⟨(some 57), (.load
  false 1 (.tmp 56)), none⟩, ⟨(some 58), (.bin .add (.tmp 55) (.tmp 57)), none⟩, ⟨(some 59), (.max (.tmp 52) (.tmp 58)), none⟩, ⟨(some 10), (.mv (.tmp 59)), none⟩]) .skip)) (.reg [⟨(some 60), (.mv (.tmp 10)), none⟩, ⟨(some 61),
  (.faddr 0 (.tmp 12)), none⟩, ⟨(some 62), (.load false 1 (.tmp 61)), none⟩, ⟨(some 63), (.bin .add (.tmp 62) (.const (.int .i64 1))), none⟩, ⟨(some 64), (.max (.tmp 60) (.tmp 63)), none⟩, ⟨(some 10), (.mv (.tmp 64)), none⟩])))))
  (.reg [⟨(some 65), (.bin .add (.tmp 37) (.const (.int .i64 1))), none⟩, ⟨(some 37), (.mv (.tmp 65)), none⟩]))))))) (.seq (.seq (.reg [⟨(some 66), (.mv (.tmp 0)), none⟩, ⟨(some 67), (.mv (.tmp 3)), none⟩, ⟨(some 68), (.call 13
  [.tmp 66, .tmp 67]), none⟩, ⟨(some 69), (.mv (.tmp 9)), none⟩, ⟨(some 70), (.call 12 [.tmp 68, .tmp 69]), none⟩, ⟨(some 71), (.un .not (.tmp 70)), none⟩]) (.cond (.tmp 71) (.seq (.reg [⟨(some 8), (.mv (.const (.bool false))),
  none⟩]) .ret) .skip)) (.seq (.reg [⟨(some 72), (.mv (.tmp 0)), none⟩, ⟨(some 73), (.mv (.tmp 1)), none⟩, ⟨(some 74), (.call 9 [.tmp 72, .tmp 73]), none⟩, ⟨(some 75), (.bin .neq (.tmp 74) (.const (.int .i64 0))), none⟩, ⟨(some
  76), (.mv (.tmp 75)), none⟩, ⟨(some 77), (.mv (.tmp 0)), (some (76, false))⟩, ⟨(some 78), (.call 14 [.tmp 77]), (some (76, false))⟩, ⟨(some 79), (.mv (.tmp 10)), (some (76, false))⟩, ⟨(some 80), (.bin .eql (.tmp 78) (.tmp 79)),
  (some (76, false))⟩, ⟨(some 81), (.pick (.tmp 76) (.const (.bool true)) (.tmp 80)), none⟩, ⟨(some 8), (.mv (.tmp 81)), none⟩]) .ret)))))))⟩
theorem ok_gantlaw2_FaultChecks : compF eff Tryd.prog Tryd.f3 = some ir_gantlaw2_FaultChecks := by kernel_rfl
theorem fn_gantlaw2_FaultChecks : Tryd.prog.funcs[3]? = some Tryd.f3 := Tryd.func3
def ir_gantlaw2_FaultTexts : IFun := ⟨84, [.tmp 6], (.seq (.reg [⟨(some 6), (.mv (.const (.bool false))), none⟩]) (.seq (.seq (.reg [⟨(some 14), (.call 7 []), none⟩, ⟨(some 15), (.un .not (.tmp 14)), none⟩]) (.cond (.tmp 15) (.seq (.reg [⟨(some 6), (.mv (.const
  (.bool false))), none⟩]) .ret) .skip)) (.seq (.reg [⟨(some 17), (.mv (.tmp 0)), none⟩, ⟨(some 18), (.mv (.tmp 2)), none⟩, ⟨(some 19), (.call 20 [.tmp 17, .tmp 18]), none⟩, ⟨(some 16), (.mv (.tmp 19)), none⟩, ⟨(some 20), (.ext
  (.tmp 16) 0), none⟩, ⟨(some 21), (.ext (.tmp 16) 1), none⟩, ⟨(some 7), (.mv (.tmp 20)), none⟩, ⟨(some 8), (.mv (.tmp 21)), none⟩]) (.seq (.seq (.reg [⟨(some 22), (.mv (.tmp 0)), none⟩, ⟨(some 23), (.mv (.tmp 2)), none⟩, ⟨(some
  24), (.call 9 [.tmp 22, .tmp 23]), none⟩, ⟨(some 9), (.mv (.tmp 24)), none⟩]) (.seq (.reg [⟨(some 25), (.mv (.tmp 9)), none⟩, ⟨(some 26), (.bin .neq (.tmp 25) (.const (.int .i64 0))), none⟩]) (.cond (.tmp 26) (.seq (.reg [⟨(some
  27), (.mv (.tmp 8)), none⟩, ⟨(some 28), (.mv (.tmp 9)), none⟩, ⟨(some 29), (.bin .neq (.tmp 27) (.tmp 28)), none⟩, ⟨(some 30), (.mv (.tmp 29)), none⟩, ⟨(some 31), (.mv (.tmp 7)), (some (30, false))⟩, ⟨(some 32), (.bin .neq (.tmp
  31) (.const (.string ⟨#[]⟩))), (some (30, false))⟩, ⟨(some 33), (.pick (.tmp 30) (.const (.bool true)) (.tmp 32)), none⟩]) (.cond (.tmp 33) (.seq (.reg [⟨(some 6), (.mv (.const (.bool false))), none⟩]) .ret) .skip)) (.seq (.reg
  [⟨(some 34), (.mv (.tmp 8)), none⟩, ⟨(some 35), (.bin .neq (.tmp 34) (.const (.int .i64 0))), none⟩, ⟨(some 36), (.mv (.tmp 35)), none⟩, ⟨(some 37), (.mv (.tmp 7)), (some (36, false))⟩, ⟨(some 38), (.mv (.tmp 0)), (some (36,
  false))⟩, ⟨(some 39), (.call 21 [.tmp 38]), (some (36, false))⟩, ⟨(some 40), (.bin .neq (.tmp 37) (.tmp 39)), (some (36, false))⟩, ⟨(some 41), (.pick (.tmp 36) (.const (.bool true)) (.tmp 40)), none⟩]) (.cond (.tmp 41) (.seq
  (.reg [⟨(some 6), (.mv (.const (.bool false))), none⟩]) .ret) .skip))))) (.seq (.reg [⟨(some 43), (.mv (.tmp 1)), none⟩, ⟨(some 44), (.mv (.tmp 2)), none⟩, ⟨(some 45), (.call 22 [.tmp 43, .tmp 44]), none⟩, ⟨(some 42), (.mv (.tmp
  45)), none⟩, ⟨(some 46), (.ext (.tmp 42) 0), none⟩, ⟨(some 47), (.ext (.tmp 42) 1), none⟩, ⟨(some 10), (.mv (.tmp 46)), none⟩, ⟨(some 8), (.mv (.tmp 47)), none⟩]) (.seq (.seq (.reg [⟨(some 48), (.mv (.tmp 1)), none⟩, ⟨(some 49),
  (.len true (.tmp 48)), none⟩, ⟨(some 50), (.bin .gtr (.tmp 49) (.const (.int .i64 2000))), none⟩]) (.cond (.tmp 50) (.seq (.reg [⟨(some 51), (.mv (.tmp 8)), none⟩, ⟨(some 52), (.bin .eql (.tmp 51) (.const (.int .i64 2))), none⟩,
  ⟨(some 53), (.mv (.tmp 52)), none⟩, ⟨(some 54), (.mv (.tmp 10)), (some (53, true))⟩, ⟨(some 55), (.len false (.tmp 54)), (some (53, true))⟩, ⟨(some 56), (.bin .eql (.tmp 55) (.const (.int .i64 0))), (some (53, true))⟩, ⟨(some
  57), (.pick (.tmp 53) (.tmp 56) (.const (.bool false))), none⟩, ⟨(some 6), (.mv (.tmp 57)), none⟩]) .ret) .skip)) (.seq (.reg [⟨(some 59), (.mv (.tmp 1)), none⟩, ⟨(some 60), (.call 23 [.tmp 59]), none⟩, ⟨(some 58), (.mv (.tmp
  60)), none⟩, ⟨(some 61), (.ext (.tmp 58) 0), none⟩, ⟨(some 62), (.ext (.tmp 58) 1), none⟩, ⟨(some 11), (.mv (.tmp 61)), none⟩, ⟨(some 12), (.mv (.tmp 62)), none⟩]) (.seq (.reg [⟨(some 13), (.mv (.const (.int .i64 15))), none⟩])
  (.seq (.seq (.reg [⟨(some 63), (.mv (.tmp 12)), none⟩]) (.cond (.tmp 63) (.reg [⟨(some 64), (.mv (.tmp 11)), none⟩, ⟨(some 65), (.mv (.tmp 2)), none⟩, ⟨(some 66), (.call 9 [.tmp 64, .tmp 65]), none⟩, ⟨(some 13), (.mv (.tmp 66)),
  none⟩]) .skip)) (.seq (.seq (.reg [⟨(some 67), (.mv (.tmp 13)), none⟩, ⟨(some 68), (.bin .neq (.tmp 67) (.const (.int .i64 0))), none⟩]) (.cond (.tmp 68) (.seq (.reg [⟨(some 69), (.mv (.tmp 8)), none⟩, ⟨(some 70), (.mv (.tmp
  13)), none⟩, ⟨(some 71), (.bin .eql (.tmp 69) (.tmp 70)), none⟩, ⟨(some 72), (.mv (.tmp 71)), none⟩, ⟨(some 73), (.mv (.tmp 10)), (some (72, true))⟩, ⟨(some 74), (.len false (.tmp 73)), (some (72, true))⟩, ⟨(some 75), (.bin .eql
  (.tmp 74) (.const (.int .i64 0))), (some (72, true))⟩, ⟨(some 76), (.pick (.tmp 72) (.tmp 75) (.const (.bool false))), none⟩, ⟨(some 6), (.mv (.tmp 76)), none⟩]) .ret) .skip)) (.seq (.reg [⟨(some 77), (.mv (.tmp 8)), none⟩,
  ⟨(some 78), (.bin .eql (.tmp 77) (.const (.int .i64 0))), none⟩, ⟨(some 79), (.mv (.tmp 78)), none⟩, ⟨(some 80), (.mv (.tmp 10)), (some (79, true))⟩, ⟨(some 81), (.mv (.tmp 11)), (some (79, true))⟩, ⟨(some 82), (.call 12 [.tmp
  80, .tmp 81]), (some (79, true))⟩, ⟨(some 83), (.pick (.tmp 79) (.tmp 82) (.const (.bool false))), none⟩, ⟨(some 6), (.mv (.tmp 83)), none⟩]) .ret)))))))))))⟩
theorem ok_gantlaw2_FaultTexts : compF eff Tryd.prog Tryd.f5 = some ir_gantlaw2_FaultTexts := by kernel_rfl
theorem fn_gantlaw2_FaultTexts : Tryd.prog.funcs[5]? = some Tryd.f5 := Tryd.func5
def ir_gantlaw2_faultBegun : IFun := ⟨27, [.tmp 0], (.seq (.reg [⟨(some 0), (.mv (.const (.bool false))), none⟩]) (.seq (.reg [⟨(some 4), (.build [.int .i64 0, .int .i64 0, .int .i64 0] [(0, (1, .const (.int .i64 12))), (1, (1, .const (.int .i64 3)))]), none⟩, ⟨(some
  5), (.bsl 28 3 1 [.int .i64 0, .int .i64 0, .int .i64 0] [(0, .tmp 4)]), none⟩, ⟨(some 1), (.mv (.tmp 5)), none⟩]) (.seq (.reg [⟨(some 7), (.mv (.tmp 1)), none⟩, ⟨(some 8), (.call 20 [.tmp 7, .const (.int .i64 1)]), none⟩,
  ⟨(some 6), (.mv (.tmp 8)), none⟩, ⟨(some 9), (.ext (.tmp 6) 0), none⟩, ⟨(some 10), (.ext (.tmp 6) 1), none⟩, ⟨(some 2), (.mv (.tmp 9)), none⟩, ⟨(some 3), (.mv (.tmp 10)), none⟩]) (.seq (.reg [⟨(some 11), (.mv (.tmp 3)), none⟩,
  ⟨(some 12), (.bin .eql (.tmp 11) (.const (.int .i64 0))), none⟩, ⟨(some 13), (.mv (.tmp 12)), none⟩, ⟨(some 14), (.mv (.tmp 2)), (some (13, true))⟩, ⟨(some 15), (.bin .eql (.tmp 14) (.const (.string ⟨#[49, 50, 32, 102, 97, 108,
  108, 32, 48, 10]⟩))), (some (13, true))⟩, ⟨(some 16), (.pick (.tmp 13) (.tmp 15) (.const (.bool false))), none⟩, ⟨(some 17), (.mv (.tmp 16)), none⟩, ⟨(some 18), (.mv (.tmp 1)), (some (17, true))⟩, ⟨(some 19), (.call 10 [.tmp 18,
  .const (.int .i64 0), .const (.int .i64 12)]), (some (17, true))⟩, ⟨(some 20), (.pick (.tmp 17) (.tmp 19) (.const (.bool false))), none⟩, ⟨(some 21), (.mv (.tmp 20)), none⟩, ⟨(some 22), (.build [.int .i64 0, .int .i64 0, .int
  .i64 0] [(1, (1, .const (.int .i64 9)))]), (some (21, true))⟩, ⟨(some 23), (.bsl 28 3 1 [.int .i64 0, .int .i64 0, .int .i64 0] [(0, .tmp 22)]), (some (21, true))⟩, ⟨(some 24), (.call 8 [.tmp 23, .const (.int .i64 1)]), (some
  (21, true))⟩, ⟨(some 25), (.bin .eql (.tmp 24) (.const (.int .i64 3))), (some (21, true))⟩, ⟨(some 26), (.pick (.tmp 21) (.tmp 25) (.const (.bool false))), none⟩, ⟨(some 0), (.mv (.tmp 26)), none⟩]) .ret))))⟩
theorem ok_gantlaw2_faultBegun : compF eff Tryd.prog Tryd.f7 = some ir_gantlaw2_faultBegun := by kernel_rfl
theorem fn_gantlaw2_faultBegun : Tryd.prog.funcs[7]? = some Tryd.f7 := Tryd.func7
def ir_gantkeep2_FaultDown : IFun := ⟨55, [.tmp 6], (.seq (.reg [⟨(some 4), (.box 3 (.tmp 1)), none⟩, ⟨(some 6), (.mv (.const (.bool false))), none⟩]) (.seq (.reg [⟨(some 10), (.mv (.tmp 0)), none⟩, ⟨(some 11), (.call 15 [.tmp 10]), none⟩, ⟨(some 7), (.mv (.tmp 11)),
  none⟩]) (.seq (.reg [⟨(some 12), (.load false 1 (.tmp 4)), none⟩, ⟨(some 13), (.call 16 [.tmp 12, .const (.int .i64 2)]), none⟩, ⟨(some 14), (.mv (.tmp 2)), none⟩, ⟨(some 15), (.call 16 [.tmp 14, .const (.int .i64 60)]), none⟩,
  ⟨none, (.store 1 (.tmp 4) (.tmp 13)), none⟩, ⟨(some 2), (.mv (.tmp 15)), none⟩]) (.seq (.reg [⟨(some 16), (.mv (.tmp 7)), none⟩, ⟨(some 17), (.call 14 [.tmp 16]), none⟩, ⟨(some 8), (.mv (.tmp 17)), none⟩]) (.seq (.seq (.reg
  [⟨(some 18), (.call 17 []), none⟩, ⟨(some 19), (.un .not (.tmp 18)), none⟩, ⟨(some 20), (.mv (.tmp 19)), none⟩, ⟨(some 21), (.mv (.tmp 8)), (some (20, false))⟩, ⟨(some 22), (.bin .lss (.tmp 21) (.const (.int .i64 0))), (some
  (20, false))⟩, ⟨(some 23), (.pick (.tmp 20) (.const (.bool true)) (.tmp 22)), none⟩, ⟨(some 24), (.mv (.tmp 23)), none⟩, ⟨(some 25), (.mv (.tmp 2)), (some (24, false))⟩, ⟨(some 26), (.mv (.tmp 8)), (some (24, false))⟩, ⟨(some
  27), (.bin .geq (.tmp 25) (.tmp 26)), (some (24, false))⟩, ⟨(some 28), (.mv (.tmp 27)), (some (24, false))⟩, ⟨(some 29), (.mv (.tmp 7)), (some (28, true))⟩, ⟨(some 30), (.mv (.tmp 2)), (some (28, true))⟩, ⟨(some 31), (.call 13
  [.tmp 29, .tmp 30]), (some (28, true))⟩, ⟨(some 32), (.len false (.tmp 31)), (some (28, true))⟩, ⟨(some 33), (.bin .gtr (.tmp 32) (.const (.int .i64 0))), (some (28, true))⟩, ⟨(some 34), (.pick (.tmp 28) (.tmp 33) (.const (.bool
  false))), (some (24, false))⟩, ⟨(some 35), (.pick (.tmp 24) (.const (.bool true)) (.tmp 34)), none⟩]) (.cond (.tmp 35) (.seq (.reg [⟨(some 6), (.mv (.const (.bool false))), none⟩]) .ret) .skip)) (.seq (.regd [.q, .q, .q, .q, .q,
  .q, .q, .q, .q, .q, .q] [⟨(some 36), (.mv (.tmp 7)), none⟩, ⟨(some 37), (.load false 1 (.tmp 4)), none⟩, ⟨(some 38), (.mv (.tmp 2)), none⟩, ⟨(some 39), (.call 10 [.tmp 36, .tmp 37, .tmp 38]), none⟩, ⟨(some 40), (.mv (.tmp 7)),
  none⟩, ⟨(some 41), (.load false 1 (.tmp 4)), none⟩, ⟨(some 42), (.mv (.tmp 2)), none⟩, ⟨(some 43), (.bin .add (.tmp 42) (.const (.int .i64 1))), none⟩, ⟨(some 44), (.call 10 [.tmp 40, .tmp 41, .tmp 43]), none⟩, ⟨(some 45), (.beq
  false (.tmp 39) (.tmp 44)), none⟩, ⟨(some 9), (.mv (.tmp 45)), none⟩]) (.seq (.reg [⟨(some 46), (.mv (.tmp 9)), none⟩, ⟨(some 47), (.mv (.tmp 46)), none⟩, ⟨(some 48), (.mv (.tmp 7)), (some (47, false))⟩, ⟨(some 49), (.mv (.tmp
  2)), (some (47, false))⟩, ⟨(some 50), (.bin .add (.tmp 49) (.const (.int .i64 1))), (some (47, false))⟩, ⟨(some 51), (.call 13 [.tmp 48, .tmp 50]), (some (47, false))⟩, ⟨(some 52), (.clo 19 [.tmp 4]), (some (47, false))⟩, ⟨(some
  53), (.call 18 [.tmp 51, .tmp 52]), (some (47, false))⟩, ⟨(some 54), (.pick (.tmp 47) (.const (.bool true)) (.tmp 53)), none⟩, ⟨(some 6), (.mv (.tmp 54)), none⟩]) .ret)))))))⟩
theorem ok_gantkeep2_FaultDown : compF eff Tryd.prog Tryd.f4 = some ir_gantkeep2_FaultDown := by kernel_rfl
theorem fn_gantkeep2_FaultDown : Tryd.prog.funcs[4]? = some Tryd.f4 := Tryd.func4
def ir_gantkeep2_FaultBack : IFun := ⟨86, [.tmp 4], (.seq (.reg [⟨(some 4), (.mv (.const (.bool false))), none⟩]) (.seq (.reg [⟨(some 17), (.mv (.tmp 0)), none⟩, ⟨(some 18), (.call 15 [.tmp 17]), none⟩, ⟨(some 19), (.mv (.tmp 1)), none⟩, ⟨(some 20), (.call 15 [.tmp
  19]), none⟩, ⟨(some 5), (.mv (.tmp 18)), none⟩, ⟨(some 6), (.mv (.tmp 20)), none⟩]) (.seq (.reg [⟨(some 22), (.mv (.tmp 5)), none⟩, ⟨(some 23), (.call 20 [.tmp 22, .const (.int .i64 2)]), none⟩, ⟨(some 21), (.mv (.tmp 23)),
  none⟩, ⟨(some 24), (.ext (.tmp 21) 0), none⟩, ⟨(some 25), (.ext (.tmp 21) 1), none⟩, ⟨(some 7), (.mv (.tmp 24)), none⟩, ⟨(some 8), (.mv (.tmp 25)), none⟩]) (.seq (.reg [⟨(some 27), (.mv (.tmp 6)), none⟩, ⟨(some 28), (.call 20
  [.tmp 27, .const (.int .i64 2)]), none⟩, ⟨(some 26), (.mv (.tmp 28)), none⟩, ⟨(some 29), (.ext (.tmp 26) 0), none⟩, ⟨(some 30), (.ext (.tmp 26) 1), none⟩, ⟨(some 9), (.mv (.tmp 29)), none⟩, ⟨(some 10), (.mv (.tmp 30)), none⟩])
  (.seq (.reg [⟨(some 32), (.mv (.tmp 7)), none⟩, ⟨(some 33), (.call 22 [.tmp 32, .const (.int .i64 2)]), none⟩, ⟨(some 31), (.mv (.tmp 33)), none⟩, ⟨(some 34), (.ext (.tmp 31) 0), none⟩, ⟨(some 35), (.ext (.tmp 31) 1), none⟩,
  ⟨(some 11), (.mv (.tmp 34)), none⟩, ⟨(some 12), (.mv (.tmp 35)), none⟩]) (.seq (.seq (.reg [⟨(some 36), (.call 17 []), none⟩, ⟨(some 37), (.un .not (.tmp 36)), none⟩, ⟨(some 38), (.mv (.tmp 37)), none⟩, ⟨(some 39), (.mv (.tmp
  8)), (some (38, false))⟩, ⟨(some 40), (.bin .neq (.tmp 39) (.const (.int .i64 0))), (some (38, false))⟩, ⟨(some 41), (.pick (.tmp 38) (.const (.bool true)) (.tmp 40)), none⟩, ⟨(some 42), (.mv (.tmp 41)), none⟩, ⟨(some 43), (.mv
  (.tmp 10)), (some (42, false))⟩, ⟨(some 44), (.bin .neq (.tmp 43) (.const (.int .i64 0))), (some (42, false))⟩, ⟨(some 45), (.pick (.tmp 42) (.const (.bool true)) (.tmp 44)), none⟩, ⟨(some 46), (.mv (.tmp 45)), none⟩, ⟨(some
  47), (.mv (.tmp 12)), (some (46, false))⟩, ⟨(some 48), (.bin .neq (.tmp 47) (.const (.int .i64 0))), (some (46, false))⟩, ⟨(some 49), (.pick (.tmp 46) (.const (.bool true)) (.tmp 48)), none⟩, ⟨(some 50), (.mv (.tmp 49)), none⟩,
  ⟨(some 51), (.mv (.tmp 11)), (some (50, false))⟩, ⟨(some 52), (.mv (.tmp 5)), (some (50, false))⟩, ⟨(some 53), (.call 12 [.tmp 51, .tmp 52]), (some (50, false))⟩, ⟨(some 54), (.un .not (.tmp 53)), (some (50, false))⟩, ⟨(some
  55), (.pick (.tmp 50) (.const (.bool true)) (.tmp 54)), none⟩]) (.cond (.tmp 55) (.seq (.reg [⟨(some 4), (.mv (.const (.bool false))), none⟩]) .ret) .skip)) (.seq (.reg [⟨(some 56), (.mv (.tmp 5)), none⟩, ⟨(some 57), (.mv (.tmp
  6)), none⟩, ⟨(some 58), (.bsl 22 1 2 [.slice none 0 0] [(0, .tmp 56), (1, .tmp 57)]), none⟩, ⟨(some 59), (.call 24 [.tmp 58]), none⟩, ⟨(some 13), (.mv (.tmp 59)), none⟩]) (.seq (.reg [⟨(some 61), (.mv (.tmp 7)), none⟩, ⟨(some
  62), (.mv (.tmp 9)), none⟩, ⟨(some 63), (.bin .add (.tmp 61) (.tmp 62)), none⟩, ⟨(some 64), (.call 22 [.tmp 63, .const (.int .i64 2)]), none⟩, ⟨(some 60), (.mv (.tmp 64)), none⟩, ⟨(some 65), (.ext (.tmp 60) 0), none⟩, ⟨(some
  66), (.ext (.tmp 60) 1), none⟩, ⟨(some 14), (.mv (.tmp 65)), none⟩, ⟨(some 15), (.mv (.tmp 66)), none⟩]) (.seq (.seq (.reg [⟨(some 67), (.mv (.tmp 13)), none⟩, ⟨(some 68), (.call 8 [.tmp 67, .const (.int .i64 2)]), none⟩, ⟨(some
  16), (.mv (.tmp 68)), none⟩]) (.seq (.reg [⟨(some 69), (.mv (.tmp 16)), none⟩, ⟨(some 70), (.bin .neq (.tmp 69) (.const (.int .i64 0))), none⟩]) (.cond (.tmp 70) (.seq (.reg [⟨(some 71), (.mv (.tmp 15)), none⟩, ⟨(some 72), (.mv
  (.tmp 16)), none⟩, ⟨(some 73), (.bin .eql (.tmp 71) (.tmp 72)), none⟩, ⟨(some 74), (.mv (.tmp 73)), none⟩, ⟨(some 75), (.mv (.tmp 14)), (some (74, true))⟩, ⟨(some 76), (.len false (.tmp 75)), (some (74, true))⟩, ⟨(some 77),
  (.bin .eql (.tmp 76) (.const (.int .i64 0))), (some (74, true))⟩, ⟨(some 78), (.pick (.tmp 74) (.tmp 77) (.const (.bool false))), none⟩, ⟨(some 4), (.mv (.tmp 78)), none⟩]) .ret) .skip))) (.seq (.reg [⟨(some 79), (.mv (.tmp
  15)), none⟩, ⟨(some 80), (.bin .eql (.tmp 79) (.const (.int .i64 0))), none⟩, ⟨(some 81), (.mv (.tmp 80)), none⟩, ⟨(some 82), (.mv (.tmp 14)), (some (81, true))⟩, ⟨(some 83), (.mv (.tmp 13)), (some (81, true))⟩, ⟨(some 84),
  (.call 12 [.tmp 82, .tmp 83]), (some (81, true))⟩, ⟨(some 85), (.pick (.tmp 81) (.tmp 84) (.const (.bool false))), none⟩, ⟨(some 4), (.mv (.tmp 85)), none⟩]) .ret))))))))))⟩
theorem ok_gantkeep2_FaultBack : compF eff Tryd.prog Tryd.f6 = some ir_gantkeep2_FaultBack := by kernel_rfl
theorem fn_gantkeep2_FaultBack : Tryd.prog.funcs[6]? = some Tryd.f6 := Tryd.func6
def ir_gantkeep2_script : IFun := ⟨68, [.tmp 2], (.seq (.reg [⟨(some 2), (.mv (.const (.slice none 0 0))), none⟩]) (.seq (.reg [⟨(some 3), (.mv (.const (.slice none 0 0))), none⟩]) (.seq (.reg [⟨(some 4), (.mv (.const (.int .i64 0))), none⟩]) (.seq (.seq (.reg
  [⟨(some 5), (.mv (.const (.int .i64 0))), none⟩]) (.block 0 (.loop (.seq (.seq (.reg [⟨(some 7), (.mv (.tmp 5)), none⟩, ⟨(some 8), (.bin .add (.tmp 7) (.const (.int .i64 2))), none⟩, ⟨(some 9), (.mv (.tmp 0)), none⟩, ⟨(some 10),
  (.len false (.tmp 9)), none⟩, ⟨(some 11), (.bin .lss (.tmp 8) (.tmp 10)), none⟩, ⟨(some 12), (.mv (.tmp 11)), none⟩, ⟨(some 13), (.mv (.tmp 3)), (some (12, true))⟩, ⟨(some 14), (.len false (.tmp 13)), (some (12, true))⟩, ⟨(some
  15), (.bin .lss (.tmp 14) (.const (.int .i64 20))), (some (12, true))⟩, ⟨(some 16), (.pick (.tmp 12) (.tmp 15) (.const (.bool false))), none⟩]) (.cond (.tmp 16) .skip (.exit 0))) (.seq (.block 1 (.seq (.reg [⟨(some 19), (.mv
  (.tmp 4)), none⟩, ⟨(some 20), (.mv (.tmp 0)), none⟩, ⟨(some 21), (.mv (.tmp 5)), none⟩, ⟨(some 22), (.iaddr 1 (.tmp 20) (.tmp 21)), none⟩, ⟨(some 23), (.load false 1 (.tmp 22)), none⟩, ⟨(some 24), (.call 16 [.tmp 23, .const
  (.int .i64 4)]), none⟩, ⟨(some 25), (.bin .add (.tmp 19) (.tmp 24)), none⟩, ⟨(some 4), (.mv (.tmp 25)), none⟩]) (.seq (.regd [.q, .q, .q, .q, .q, .q, .q, .q, .q, .q, .q, .q, .q, .q, .a, .e (some 6)] [⟨(some 26), (.mv (.tmp 4)),
  none⟩, ⟨(some 27), (.mv (.tmp 0)), none⟩, ⟨(some 28), (.mv (.tmp 5)), none⟩, ⟨(some 29), (.bin .add (.tmp 28) (.const (.int .i64 1))), none⟩, ⟨(some 30), (.iaddr 1 (.tmp 27) (.tmp 29)), none⟩, ⟨(some 31), (.load false 1 (.tmp
  30)), none⟩, ⟨(some 32), (.call 16 [.tmp 31, .const (.int .i64 6)]), none⟩, ⟨(some 33), (.mv (.tmp 0)), none⟩, ⟨(some 34), (.mv (.tmp 5)), none⟩, ⟨(some 35), (.bin .add (.tmp 34) (.const (.int .i64 2))), none⟩, ⟨(some 36),
  (.iaddr 1 (.tmp 33) (.tmp 35)), none⟩, ⟨(some 37), (.load false 1 (.tmp 36)), none⟩, ⟨(some 38), (.call 16 [.tmp 37, .const (.int .i64 2)]), none⟩, ⟨(some 39), (.build [.int .i64 0, .int .i64 0, .int .i64 0] [(0, (1, .tmp 26)),
  (1, (1, .tmp 32)), (2, (1, .tmp 38))]), none⟩, ⟨(some 6), (.alloc 28 [.int .i64 0, .int .i64 0, .int .i64 0]), none⟩, ⟨none, (.store 3 (.tmp 6) (.tmp 39)), none⟩]) (.seq (.seq (.reg [⟨(some 40), (.faddr 1 (.tmp 6)), none⟩,
  ⟨(some 41), (.load false 1 (.tmp 40)), none⟩, ⟨(some 42), (.bin .eql (.tmp 41) (.const (.int .i64 3))), none⟩, ⟨(some 43), (.mv (.tmp 42)), none⟩, ⟨(some 44), (.mv (.tmp 3)), (some (43, true))⟩, ⟨(some 45), (.faddr 2 (.tmp 6)),
  (some (43, true))⟩, ⟨(some 46), (.load false 1 (.tmp 45)), (some (43, true))⟩, ⟨(some 47), (.mv (.tmp 4)), (some (43, true))⟩, ⟨(some 48), (.call 10 [.tmp 44, .tmp 46, .tmp 47]), (some (43, true))⟩, ⟨(some 49), (.pick (.tmp 43)
  (.tmp 48) (.const (.bool false))), none⟩]) (.cond (.tmp 49) (.reg [⟨(some 50), (.faddr 1 (.tmp 6)), none⟩, ⟨none, (.store 1 (.tmp 50) (.const (.int .i64 4))), none⟩]) (.seq (.reg [⟨(some 51), (.faddr 1 (.tmp 6)), none⟩, ⟨(some
  52), (.load false 1 (.tmp 51)), none⟩, ⟨(some 53), (.bin .eql (.tmp 52) (.const (.int .i64 4))), none⟩, ⟨(some 54), (.mv (.tmp 53)), none⟩, ⟨(some 55), (.mv (.tmp 3)), (some (54, true))⟩, ⟨(some 56), (.faddr 2 (.tmp 6)), (some
  (54, true))⟩, ⟨(some 57), (.load false 1 (.tmp 56)), (some (54, true))⟩, ⟨(some 58), (.mv (.tmp 4)), (some (54, true))⟩, ⟨(some 59), (.call 10 [.tmp 55, .tmp 57, .tmp 58]), (some (54, true))⟩, ⟨(some 60), (.un .not (.tmp 59)),
  (some (54, true))⟩, ⟨(some 61), (.pick (.tmp 54) (.tmp 60) (.const (.bool false))), none⟩]) (.cond (.tmp 61) (.reg [⟨(some 62), (.faddr 1 (.tmp 6)), none⟩, ⟨none, (.store 1 (.tmp 62) (.const (.int .i64 3))), none⟩]) .skip))))
  (.reg [⟨(some 63), (.mv (.tmp 3)), none⟩, ⟨(some 64), (.load true 3 (.tmp 6)), none⟩, ⟨(some 65), (.bsl 28 3 1 [.int .i64 0, .int .i64 0, .int .i64 0] [(0, .tmp 64)]), none⟩, ⟨(some 66), (.app 28 3 24 (.tmp 63) (.tmp 65)),
  none⟩, ⟨(some 3), (.mv (.tmp 66)), none⟩]))))) (.reg [⟨(some 17), (.mv (.tmp 5)), none⟩, ⟨(some 18), (.bin .add (.tmp 17) (.const (.int .i64 3))), none⟩, ⟨(some 5), (.mv (.tmp 18)), none⟩])))))) (.seq (.reg [⟨(some 67), (.mv
  (.tmp 3)), none⟩, ⟨(some 2), (.mv (.tmp 67)), none⟩]) .ret)))))⟩
theorem ok_gantkeep2_script : compF eff Tryd.prog Tryd.f15 = some ir_gantkeep2_script := by kernel_rfl
theorem fn_gantkeep2_script : Tryd.prog.funcs[15]? = some Tryd.f15 := Tryd.func15
def ir_gantkeep2_faults : IFun := ⟨23, [.tmp 0], (.seq (.reg [⟨(some 0), (.mv (.const (.bool false))), none⟩]) (.seq (.reg [⟨(some 4), (.build [.int .i64 0, .int .i64 0, .int .i64 0] [(0, (1, .const (.int .i64 12))), (1, (1, .const (.int .i64 3)))]), none⟩, ⟨(some
  5), (.bsl 28 3 1 [.int .i64 0, .int .i64 0, .int .i64 0] [(0, .tmp 4)]), none⟩, ⟨(some 1), (.mv (.tmp 5)), none⟩]) (.seq (.reg [⟨(some 7), (.mv (.tmp 1)), none⟩, ⟨(some 8), (.call 20 [.tmp 7, .const (.int .i64 1)]), none⟩,
  ⟨(some 6), (.mv (.tmp 8)), none⟩, ⟨(some 9), (.ext (.tmp 6) 0), none⟩, ⟨(some 10), (.ext (.tmp 6) 1), none⟩, ⟨(some 2), (.mv (.tmp 9)), none⟩, ⟨(some 3), (.mv (.tmp 10)), none⟩]) (.seq (.reg [⟨(some 11), (.mv (.tmp 3)), none⟩,
  ⟨(some 12), (.bin .eql (.tmp 11) (.const (.int .i64 0))), none⟩, ⟨(some 13), (.mv (.tmp 12)), none⟩, ⟨(some 14), (.mv (.tmp 2)), (some (13, true))⟩, ⟨(some 15), (.bin .eql (.tmp 14) (.const (.string ⟨#[49, 50, 32, 102, 97, 108,
  108, 32, 48, 10]⟩))), (some (13, true))⟩, ⟨(some 16), (.pick (.tmp 13) (.tmp 15) (.const (.bool false))), none⟩, ⟨(some 17), (.mv (.tmp 16)), none⟩, ⟨(some 18), (.build [.int .i64 0, .int .i64 0, .int .i64 0] [(1, (1, .const
  (.int .i64 9)))]), (some (17, true))⟩, ⟨(some 19), (.bsl 28 3 1 [.int .i64 0, .int .i64 0, .int .i64 0] [(0, .tmp 18)]), (some (17, true))⟩, ⟨(some 20), (.call 8 [.tmp 19, .const (.int .i64 1)]), (some (17, true))⟩, ⟨(some 21),
  (.bin .eql (.tmp 20) (.const (.int .i64 3))), (some (17, true))⟩, ⟨(some 22), (.pick (.tmp 17) (.tmp 21) (.const (.bool false))), none⟩, ⟨(some 0), (.mv (.tmp 22)), none⟩]) .ret))))⟩
theorem ok_gantkeep2_faults : compF eff Tryd.prog Tryd.f17 = some ir_gantkeep2_faults := by kernel_rfl
theorem fn_gantkeep2_faults : Tryd.prog.funcs[17]? = some Tryd.f17 := Tryd.func17
def ir_gantkeep2_FaultDown_1 : IFun := ⟨18, [.tmp 3], (.seq (.reg [⟨(some 2), (.box 28 (.tmp 0)), none⟩, ⟨(some 3), (.mv (.const (.bool false))), none⟩]) (.seq (.reg [⟨(some 4), (.faddr 2 (.tmp 2)), none⟩, ⟨(some 5), (.load false 1 (.tmp 4)), none⟩, ⟨(some 6), (.load
  false 1 (.tmp 1)), none⟩, ⟨(some 7), (.bin .eql (.tmp 5) (.tmp 6)), none⟩, ⟨(some 8), (.mv (.tmp 7)), none⟩, ⟨(some 9), (.faddr 1 (.tmp 2)), (some (8, true))⟩, ⟨(some 10), (.load false 1 (.tmp 9)), (some (8, true))⟩, ⟨(some 11),
  (.bin .eql (.tmp 10) (.const (.int .i64 3))), (some (8, true))⟩, ⟨(some 12), (.mv (.tmp 11)), (some (8, true))⟩, ⟨(some 13), (.faddr 1 (.tmp 2)), (some (12, false))⟩, ⟨(some 14), (.load false 1 (.tmp 13)), (some (12, false))⟩,
  ⟨(some 15), (.bin .eql (.tmp 14) (.const (.int .i64 4))), (some (12, false))⟩, ⟨(some 16), (.pick (.tmp 12) (.const (.bool true)) (.tmp 15)), (some (8, true))⟩, ⟨(some 17), (.pick (.tmp 8) (.tmp 16) (.const (.bool false))),
  none⟩, ⟨(some 3), (.mv (.tmp 17)), none⟩]) .ret))⟩
theorem ok_gantkeep2_FaultDown_1 : compF eff Tryd.prog Tryd.f19 = some ir_gantkeep2_FaultDown_1 := by kernel_rfl
theorem fn_gantkeep2_FaultDown_1 : Tryd.prog.funcs[19]? = some Tryd.f19 := Tryd.func19
def ir_gantmake_Below : IFun := ⟨14, [.tmp 4], (.seq (.reg [⟨(some 4), (.mv (.const (.int .i64 0))), none⟩]) (.seq (.reg [⟨(some 5), (.mv (.tmp 0)), none⟩, ⟨(some 6), (.mv (.tmp 1)), none⟩, ⟨(some 7), (.bin .rem (.tmp 5) (.tmp 6)), none⟩, ⟨(some 0), (.mv (.tmp
  7)), none⟩]) (.seq (.seq (.reg [⟨(some 8), (.mv (.tmp 0)), none⟩, ⟨(some 9), (.bin .lss (.tmp 8) (.const (.int .i64 0))), none⟩]) (.cond (.tmp 9) (.reg [⟨(some 10), (.mv (.tmp 0)), none⟩, ⟨(some 11), (.mv (.tmp 1)), none⟩,
  ⟨(some 12), (.bin .add (.tmp 10) (.tmp 11)), none⟩, ⟨(some 0), (.mv (.tmp 12)), none⟩]) .skip)) (.seq (.reg [⟨(some 13), (.mv (.tmp 0)), none⟩, ⟨(some 4), (.mv (.tmp 13)), none⟩]) .ret))))⟩
theorem ok_gantmake_Below : compF eff Tryd.prog Tryd.f16 = some ir_gantmake_Below := by kernel_rfl
theorem fn_gantmake_Below : Tryd.prog.funcs[16]? = some Tryd.f16 := Tryd.func16
def ir_slices_Equal_api_Fault_api_Fault : IFun := ⟨26, [.tmp 4], (.seq (.reg [⟨(some 4), (.mv (.const (.bool false))), none⟩]) (.seq (.seq (.reg [⟨(some 6), (.mv (.tmp 0)), none⟩, ⟨(some 7), (.len false (.tmp 6)), none⟩, ⟨(some 8), (.mv (.tmp 1)), none⟩, ⟨(some 9), (.len false
  (.tmp 8)), none⟩, ⟨(some 10), (.bin .neq (.tmp 7) (.tmp 9)), none⟩]) (.cond (.tmp 10) (.seq (.reg [⟨(some 4), (.mv (.const (.bool false))), none⟩]) .ret) .skip)) (.seq (.seq (.reg [⟨(some 11), (.mv (.tmp 0)), none⟩, ⟨(some 12),
  (.len false (.tmp 11)), none⟩, ⟨(some 13), (.mv (.const (.int .i64 0))), none⟩]) (.block 0 (.loop (.seq (.reg [⟨(some 14), (.bin .lss (.tmp 13) (.tmp 12)), none⟩]) (.seq (.cond (.tmp 14) .skip (.exit 0)) (.seq (.block 1 (.seq
  (.reg [⟨(some 15), (.mv (.tmp 13)), none⟩, ⟨(some 5), (.mv (.tmp 15)), none⟩]) (.seq (.regd [.q, .q, .q, .q, .q, .q, .q, .q, .q] [⟨(some 16), (.mv (.tmp 0)), none⟩, ⟨(some 17), (.mv (.tmp 5)), none⟩, ⟨(some 18), (.iaddr 3 (.tmp
  16) (.tmp 17)), none⟩, ⟨(some 19), (.load true 3 (.tmp 18)), none⟩, ⟨(some 20), (.mv (.tmp 1)), none⟩, ⟨(some 21), (.mv (.tmp 5)), none⟩, ⟨(some 22), (.iaddr 3 (.tmp 20) (.tmp 21)), none⟩, ⟨(some 23), (.load true 3 (.tmp 22)),
  none⟩, ⟨(some 24), (.aeq true [.i, .i, .i] (.tmp 19) (.tmp 23)), none⟩]) (.cond (.tmp 24) (.seq (.reg [⟨(some 4), (.mv (.const (.bool false))), none⟩]) .ret) .skip)))) (.reg [⟨(some 25), (.bin .add (.tmp 13) (.const (.int .i64
  1))), none⟩, ⟨(some 13), (.mv (.tmp 25)), none⟩]))))))) (.seq (.reg [⟨(some 4), (.mv (.const (.bool true))), none⟩]) .ret))))⟩
theorem ok_slices_Equal_api_Fault_api_Fault : compF eff Tryd.prog Tryd.f12 = some ir_slices_Equal_api_Fault_api_Fault := by kernel_rfl
theorem fn_slices_Equal_api_Fault_api_Fault : Tryd.prog.funcs[12]? = some Tryd.f12 := Tryd.func12
def ir_slices_ContainsFunc_api_Fault_api_Fault : IFun := ⟨9, [.tmp 4], (.seq (.reg [⟨(some 4), (.mv (.const (.bool false))), none⟩]) (.seq (.reg [⟨(some 5), (.mv (.tmp 0)), none⟩, ⟨(some 6), (.mv (.tmp 1)), none⟩, ⟨(some 7), (.call 27 [.tmp 5, .tmp 6]), none⟩, ⟨(some 8), (.bin .geq
  (.tmp 7) (.const (.int .i64 0))), none⟩, ⟨(some 4), (.mv (.tmp 8)), none⟩]) .ret))⟩
theorem ok_slices_ContainsFunc_api_Fault_api_Fault : compF eff Tryd.prog Tryd.f18 = some ir_slices_ContainsFunc_api_Fault_api_Fault := by kernel_rfl
theorem fn_slices_ContainsFunc_api_Fault_api_Fault : Tryd.prog.funcs[18]? = some Tryd.f18 := Tryd.func18
def ir_slices_Concat_api_Fault_api_Fault : IFun := ⟨36, [.tmp 2], (.seq (.reg [⟨(some 2), (.mv (.const (.slice none 0 0))), none⟩]) (.seq (.reg [⟨(some 3), (.mv (.const (.int .i64 0))), none⟩]) (.seq (.seq (.reg [⟨(some 9), (.mv (.tmp 0)), none⟩, ⟨(some 10), (.len false (.tmp 9)),
  none⟩, ⟨(some 11), (.mv (.const (.int .i64 0))), none⟩]) (.block 0 (.loop (.seq (.reg [⟨(some 12), (.bin .lss (.tmp 11) (.tmp 10)), none⟩]) (.seq (.cond (.tmp 12) .skip (.exit 0)) (.seq (.block 1 (.seq (.reg [⟨(some 13), (.iaddr
  1 (.tmp 9) (.tmp 11)), none⟩, ⟨(some 14), (.load false 1 (.tmp 13)), none⟩, ⟨(some 5), (.mv (.tmp 14)), none⟩]) (.seq (.reg [⟨(some 15), (.mv (.tmp 3)), none⟩, ⟨(some 16), (.mv (.tmp 5)), none⟩, ⟨(some 17), (.len false (.tmp
  16)), none⟩, ⟨(some 18), (.bin .add (.tmp 15) (.tmp 17)), none⟩, ⟨(some 3), (.mv (.tmp 18)), none⟩]) (.seq (.reg [⟨(some 19), (.mv (.tmp 3)), none⟩, ⟨(some 20), (.bin .lss (.tmp 19) (.const (.int .i64 0))), none⟩]) (.cond (.tmp
  20) (.reg [⟨(some 21), (.raw (.makeInterface 9 (.const (.string ⟨#[108, 101, 110, 32, 111, 117, 116, 32, 111, 102, 32, 114, 97, 110, 103, 101]⟩))) 20), none⟩, ⟨none, (.raw (.panic (.tmp 21)) 0), none⟩]) .skip))))) (.reg [⟨(some
  22), (.bin .add (.tmp 11) (.const (.int .i64 1))), none⟩, ⟨(some 11), (.mv (.tmp 22)), none⟩]))))))) (.seq (.reg [⟨(some 23), (.mv (.tmp 3)), none⟩, ⟨(some 24), (.call 39 [.const (.slice none 0 0), .tmp 23]), none⟩, ⟨(some 6),
  (.mv (.tmp 24)), none⟩]) (.seq (.seq (.reg [⟨(some 25), (.mv (.tmp 0)), none⟩, ⟨(some 26), (.len false (.tmp 25)), none⟩, ⟨(some 27), (.mv (.const (.int .i64 0))), none⟩]) (.block 2 (.loop (.seq (.reg [⟨(some 28), (.bin .lss
  (.tmp 27) (.tmp 26)), none⟩]) (.seq (.cond (.tmp 28) .skip (.exit 2)) (.seq (.block 3 (.seq (.reg [⟨(some 29), (.iaddr 1 (.tmp 25) (.tmp 27)), none⟩, ⟨(some 30), (.load false 1 (.tmp 29)), none⟩, ⟨(some 8), (.mv (.tmp 30)),
  none⟩]) (.reg [⟨(some 31), (.mv (.tmp 6)), none⟩, ⟨(some 32), (.mv (.tmp 8)), none⟩, ⟨(some 33), (.app 28 3 24 (.tmp 31) (.tmp 32)), none⟩, ⟨(some 6), (.mv (.tmp 33)), none⟩]))) (.reg [⟨(some 34), (.bin .add (.tmp 27) (.const
  (.int .i64 1))), none⟩, ⟨(some 27), (.mv (.tmp 34)), none⟩]))))))) (.seq (.reg [⟨(some 35), (.mv (.tmp 6)), none⟩, ⟨(some 2), (.mv (.tmp 35)), none⟩]) .ret))))))⟩
theorem ok_slices_Concat_api_Fault_api_Fault : compF eff Tryd.prog Tryd.f24 = some ir_slices_Concat_api_Fault_api_Fault := by kernel_rfl
theorem fn_slices_Concat_api_Fault_api_Fault : Tryd.prog.funcs[24]? = some Tryd.f24 := Tryd.func24
def ir_slices_IndexFunc_api_Fault_api_Fault : IFun := ⟨19, [.tmp 4], (.seq (.reg [⟨(some 4), (.mv (.const (.int .i64 0))), none⟩]) (.seq (.seq (.reg [⟨(some 6), (.mv (.tmp 0)), none⟩, ⟨(some 7), (.len false (.tmp 6)), none⟩, ⟨(some 8), (.mv (.const (.int .i64 0))), none⟩]) (.block 0
  (.loop (.seq (.reg [⟨(some 9), (.bin .lss (.tmp 8) (.tmp 7)), none⟩]) (.seq (.cond (.tmp 9) .skip (.exit 0)) (.seq (.block 1 (.seq (.reg [⟨(some 10), (.mv (.tmp 8)), none⟩, ⟨(some 5), (.mv (.tmp 10)), none⟩]) (.seq (.reg [⟨(some
  11), (.mv (.tmp 1)), none⟩, ⟨(some 12), (.mv (.tmp 0)), none⟩, ⟨(some 13), (.mv (.tmp 5)), none⟩, ⟨(some 14), (.iaddr 3 (.tmp 12) (.tmp 13)), none⟩, ⟨(some 15), (.load true 3 (.tmp 14)), none⟩, ⟨(some 16), (.callv (.tmp 11)
  [.tmp 15]), none⟩]) (.cond (.tmp 16) (.seq (.reg [⟨(some 17), (.mv (.tmp 5)), none⟩, ⟨(some 4), (.mv (.tmp 17)), none⟩]) .ret) .skip)))) (.reg [⟨(some 18), (.bin .add (.tmp 8) (.const (.int .i64 1))), none⟩, ⟨(some 8), (.mv
  (.tmp 18)), none⟩]))))))) (.seq (.reg [⟨(some 4), (.mv (.const (.int .i64 (-1)))), none⟩]) .ret)))⟩
theorem ok_slices_IndexFunc_api_Fault_api_Fault : compF eff Tryd.prog Tryd.f27 = some ir_slices_IndexFunc_api_Fault_api_Fault := by kernel_rfl
theorem fn_slices_IndexFunc_api_Fault_api_Fault : Tryd.prog.funcs[27]? = some Tryd.f27 := Tryd.func27
def ir_slices_Index_string_string : IFun := ⟨19, [.tmp 4], (.seq (.reg [⟨(some 4), (.mv (.const (.int .i64 0))), none⟩]) (.seq (.seq (.reg [⟨(some 6), (.mv (.tmp 0)), none⟩, ⟨(some 7), (.len false (.tmp 6)), none⟩, ⟨(some 8), (.mv (.const (.int .i64 0))), none⟩]) (.block 0
  (.loop (.seq (.reg [⟨(some 9), (.bin .lss (.tmp 8) (.tmp 7)), none⟩]) (.seq (.cond (.tmp 9) .skip (.exit 0)) (.seq (.block 1 (.seq (.reg [⟨(some 10), (.mv (.tmp 8)), none⟩, ⟨(some 5), (.mv (.tmp 10)), none⟩]) (.seq (.reg [⟨(some
  11), (.mv (.tmp 1)), none⟩, ⟨(some 12), (.mv (.tmp 0)), none⟩, ⟨(some 13), (.mv (.tmp 5)), none⟩, ⟨(some 14), (.iaddr 1 (.tmp 12) (.tmp 13)), none⟩, ⟨(some 15), (.load false 1 (.tmp 14)), none⟩, ⟨(some 16), (.bin .eql (.tmp 11)
  (.tmp 15)), none⟩]) (.cond (.tmp 16) (.seq (.reg [⟨(some 17), (.mv (.tmp 5)), none⟩, ⟨(some 4), (.mv (.tmp 17)), none⟩]) .ret) .skip)))) (.reg [⟨(some 18), (.bin .add (.tmp 8) (.const (.int .i64 1))), none⟩, ⟨(some 8), (.mv
  (.tmp 18)), none⟩]))))))) (.seq (.reg [⟨(some 4), (.mv (.const (.int .i64 (-1)))), none⟩]) .ret)))⟩
theorem ok_slices_Index_string_string : compF eff Tryd.prog Tryd.f35 = some ir_slices_Index_string_string := by kernel_rfl
theorem fn_slices_Index_string_string : Tryd.prog.funcs[35]? = some Tryd.f35 := Tryd.func35
def ir_slices_Contains_string_string : IFun := ⟨9, [.tmp 4], (.seq (.reg [⟨(some 4), (.mv (.const (.bool false))), none⟩]) (.seq (.reg [⟨(some 5), (.mv (.tmp 0)), none⟩, ⟨(some 6), (.mv (.tmp 1)), none⟩, ⟨(some 7), (.call 35 [.tmp 5, .tmp 6]), none⟩, ⟨(some 8), (.bin .geq
  (.tmp 7) (.const (.int .i64 0))), none⟩, ⟨(some 4), (.mv (.tmp 8)), none⟩]) .ret))⟩
theorem ok_slices_Contains_string_string : compF eff Tryd.prog Tryd.f37 = some ir_slices_Contains_string_string := by kernel_rfl
theorem fn_slices_Contains_string_string : Tryd.prog.funcs[37]? = some Tryd.f37 := Tryd.func37
def ir_slices_Grow_api_Fault_api_Fault : IFun := ⟨27, [.tmp 4], (.seq (.reg [⟨(some 4), (.mv (.const (.slice none 0 0))), none⟩]) (.seq (.seq (.reg [⟨(some 5), (.mv (.tmp 1)), none⟩, ⟨(some 6), (.bin .lss (.tmp 5) (.const (.int .i64 0))), none⟩]) (.cond (.tmp 6) (.reg [⟨(some
  7), (.raw (.makeInterface 9 (.const (.string ⟨#[99, 97, 110, 110, 111, 116, 32, 98, 101, 32, 110, 101, 103, 97, 116, 105, 118, 101]⟩))) 20), none⟩, ⟨none, (.raw (.panic (.tmp 7)) 0), none⟩]) .skip)) (.seq (.seq (.reg [⟨(some 8),
  (.mv (.tmp 1)), none⟩, ⟨(some 9), (.mv (.tmp 0)), none⟩, ⟨(some 10), (.cap (.tmp 9)), none⟩, ⟨(some 11), (.mv (.tmp 0)), none⟩, ⟨(some 12), (.len false (.tmp 11)), none⟩, ⟨(some 13), (.bin .sub (.tmp 10) (.tmp 12)), none⟩,
  ⟨(some 14), (.bin .sub (.tmp 8) (.tmp 13)), none⟩, ⟨(some 1), (.mv (.tmp 14)), none⟩]) (.seq (.reg [⟨(some 15), (.mv (.tmp 1)), none⟩, ⟨(some 16), (.bin .gtr (.tmp 15) (.const (.int .i64 0))), none⟩]) (.cond (.tmp 16) (.reg
  [⟨(some 17), (.mv (.tmp 0)), none⟩, ⟨(some 18), (.mv (.tmp 0)), none⟩, ⟨(some 19), (.cap (.tmp 18)), none⟩, ⟨(some 20), (.slcl 3 (.tmp 17) none (some (.tmp 19))), none⟩, ⟨(some 21), (.mv (.tmp 1)), none⟩, ⟨(some 22), (.appz 28
  24 [.int .i64 0, .int .i64 0, .int .i64 0] (.tmp 20) (.tmp 21)), none⟩, ⟨(some 23), (.mv (.tmp 0)), none⟩, ⟨(some 24), (.len false (.tmp 23)), none⟩, ⟨(some 25), (.slcl 3 (.tmp 22) none (some (.tmp 24))), none⟩, ⟨(some 0), (.mv
  (.tmp 25)), none⟩]) .skip))) (.seq (.reg [⟨(some 26), (.mv (.tmp 0)), none⟩, ⟨(some 4), (.mv (.tmp 26)), none⟩]) .ret))))⟩
theorem ok_slices_Grow_api_Fault_api_Fault : compF eff Tryd.prog Tryd.f39 = some ir_slices_Grow_api_Fault_api_Fault := by kernel_rfl
theorem fn_slices_Grow_api_Fault_api_Fault : Tryd.prog.funcs[39]? = some Tryd.f39 := Tryd.func39
def ir_strings_Builder_WriteString : IFun := ⟨19, [.tmp 4, .tmp 5], (.seq (.reg [⟨(some 4), (.mv (.const (.int .i64 0))), none⟩, ⟨(some 5), (.mv (.const .nilIface)), none⟩]) (.seq (.reg [⟨(some 6), (.mv (.tmp 0)), none⟩, ⟨(some 7), (.call 40 [.tmp 6]), none⟩]) (.seq (.reg
  [⟨(some 8), (.mv (.tmp 0)), none⟩, ⟨(some 9), (.mv (.tmp 0)), none⟩, ⟨(some 10), (.nilck (.tmp 9)), none⟩, ⟨(some 11), (.faddr 1 (.tmp 10)), none⟩, ⟨(some 12), (.load false 1 (.tmp 11)), none⟩, ⟨(some 13), (.mv (.tmp 1)), none⟩,
  ⟨(some 14), (.apps 5 (.tmp 12) (.tmp 13)), none⟩, ⟨(some 15), (.nilck (.tmp 8)), none⟩, ⟨(some 16), (.faddr 1 (.tmp 15)), none⟩, ⟨none, (.store 1 (.tmp 16) (.tmp 14)), none⟩]) (.seq (.reg [⟨(some 17), (.mv (.tmp 1)), none⟩,
  ⟨(some 18), (.len true (.tmp 17)), none⟩, ⟨(some 4), (.mv (.tmp 18)), none⟩, ⟨(some 5), (.mv (.const .nilIface)), none⟩]) .ret))))⟩
theorem ok_strings_Builder_WriteString : compF eff Tryd.prog Tryd.f28 = some ir_strings_Builder_WriteString := by kernel_rfl
theorem fn_strings_Builder_WriteString : Tryd.prog.funcs[28]? = some Tryd.f28 := Tryd.func28
def ir_strings_Builder_String : IFun := ⟨14, [.tmp 2], (.seq (.reg [⟨(some 2), (.mv (.const (.string ⟨#[]⟩))), none⟩]) (.seq (.regd [.q, .q, .q, .q, .q, .q, .q, .q, .q, .q, .q, .q] [⟨(some 3), (.mv (.tmp 0)), none⟩, ⟨(some 4), (.nilck (.tmp 3)), none⟩, ⟨(some 5),
  (.faddr 1 (.tmp 4)), none⟩, ⟨(some 6), (.load false 1 (.tmp 5)), none⟩, ⟨(some 7), (.raw (.call ⟨(.builtin .unsafeSliceData), #[.tmp 6], #[55]⟩) 73), none⟩, ⟨(some 8), (.mv (.tmp 0)), none⟩, ⟨(some 9), (.nilck (.tmp 8)), none⟩,
  ⟨(some 10), (.faddr 1 (.tmp 9)), none⟩, ⟨(some 11), (.load false 1 (.tmp 10)), none⟩, ⟨(some 12), (.len false (.tmp 11)), none⟩, ⟨(some 13), (.raw (.call ⟨(.builtin .unsafeString), #[.tmp 7, .tmp 12], #[73, 3]⟩) 9), none⟩,
  ⟨(some 2), (.mv (.tmp 13)), none⟩]) .ret))⟩
theorem ok_strings_Builder_String : compF eff Tryd.prog Tryd.f30 = some ir_strings_Builder_String := by kernel_rfl
theorem fn_strings_Builder_String : Tryd.prog.funcs[30]? = some Tryd.f30 := Tryd.func30
end Go.Proofs.YtaicmkocmnikjaaDoor
