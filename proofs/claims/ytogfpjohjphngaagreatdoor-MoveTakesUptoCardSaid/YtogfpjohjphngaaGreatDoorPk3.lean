/- A part of the proof: lemmas only, with the conditions that each names. -/
import Derived.Test.YtogfpjohjphngaaGreatDoorProg
import Derived.KernelRfl
import Derived.Shelf.Strings.Trim
import Derived.Shelf.Small.Utf8
import Derived.Shelf.Small.Bits
import Derived.Shelf.Small.Strs
import Derived.Shelf.Strings.Search1
import Derived.Shelf.Strings.Runes
import Derived.Shelf.Strings.AsciiSet
import Derived.Shelf.Unicode.DecodeSlow
import Derived.Shelf.Slices.Turned
import Derived.Shelf.Spec.TrailingZeros
import Derived.Test.YtogfpjohjphngaaGreatDoorPk2
set_option linter.all false
namespace Go.Proofs.YtogfpjohjphngaaGreatDoor.Eng
open Go Go.RowKit
def TT (k : Nat) : Operand := .tmp k
def II (n : Int) : Operand := .const (.int .i64 n)
def OA (d : Nat) (x : IOp) : D9 := ⟨some d, x, none⟩
def OB (x : IOp) : D9 := ⟨none, x, none⟩
def OC (d : Nat) (x : IOp) (s : Nat) (b : Bool) : D9 := ⟨some d, x, some (s, b)⟩
def MM (d s : Nat) : D9 := ⟨some d, .mv (.tmp s), none⟩
def LL (d z s : Nat) : D9 := ⟨some d, .load true z (.tmp s), none⟩
def VV (d s : Nat) : D9 := ⟨some d, .load false 1 (.tmp s), none⟩
def FF (d o s : Nat) : D9 := ⟨some d, .a3l o (.tmp s), none⟩
def MG (d s k : Nat) (b : Bool) : D9 := ⟨some d, .mv (.tmp s), some (k, b)⟩
def LG (d z s k : Nat) (b : Bool) : D9 := ⟨some d, .load true z (.tmp s), some (k, b)⟩
def VG (d s k : Nat) (b : Bool) : D9 := ⟨some d, .load false 1 (.tmp s), some (k, b)⟩
def FG (d o s k : Nat) (b : Bool) : D9 := ⟨some d, .a3l o (.tmp s), some (k, b)⟩
end Go.Proofs.YtogfpjohjphngaaGreatDoor.Eng
namespace Go.Proofs.YtogfpjohjphngaaGreatDoor
open Go Eng
def c1h : List Nat := [86, 88, 89, 92, 93, 94, 95, 96, 97, 98, 173, 174, 176, 187, 189, 226, 227, 238, 240, 242, 245, 246, 247, 256]
def eff (f : Nat) : Bool := c1h.contains f
def a7N : a1U := ⟨99, [.tmp 4, .tmp 5, .tmp 6], .seq (.reg [OA 4 (.mv (.const (.string ⟨#[]⟩))), OA 5 (.mv (.const (.string ⟨#[]⟩))), OA 6 (.mv (II 0))]) (.seq (.reg [MM 13 0, OA 14 (.call 184 [TT 13]), MM 15 1, OA 16 (.call 184 [TT 15]), MM 0 14,
 MM 1 16]) (.seq (.block 0 (.seq (.reg [MM 18 1, OA 19 (.bin .eql (TT 18) (.const (.string ⟨#[]⟩))), MM 17 19]) (.cond (TT 17) (.seq (.reg [OA 4 (.mv (.const (.string ⟨#[]⟩))), OA 5 (.mv (.const (.string ⟨#[]⟩))), OA 6 (.mv (II
 12))]) .ret) (.seq (.reg [MM 21 0, OA 22 (.len true (TT 21)), OA 23 (.bin .leq (TT 22) (II 8)), MM 24 23, MG 25 1 24 true, OC 26 (.len true (TT 25)) 24 true, OC 27 (.bin .leq (TT 26) (II 8)) 24 true, OA 28 (.pick (TT 24) (TT 27)
 (.const (.bool false))), MM 20 28]) (.cond (TT 20) (.seq (.reg [MM 29 0, OA 30 (.call 186 [TT 29]), MM 31 1, OA 32 (.call 186 [TT 31]), OA 33 (.bin .quo (TT 30) (TT 32)), OA 34 (.call 185 [TT 33]), MM 35 0, OA 36 (.call 186 [TT
 35]), MM 37 1, OA 38 (.call 186 [TT 37]), OA 39 (.bin .rem (TT 36) (TT 38)), OA 40 (.call 185 [TT 39]), MM 4 34, MM 5 40, OA 6 (.mv (II 0))]) .ret) (.seq (.reg [MM 42 0, MM 43 1, OA 44 (.call 156 [TT 42, TT 43]), OA 45 (.bin
 .lss (TT 44) (II 0)), MM 41 45]) (.cond (TT 41) (.seq (.reg [MM 46 0, OA 4 (.mv (.const (.string ⟨#[]⟩))), MM 5 46, OA 6 (.mv (II 0))]) .ret) .skip))))))) (.seq (.reg [MM 47 0, OA 48 (.call 187 [TT 47]), MM 49 1, OA 50 (.call
 187 [TT 49]), MM 7 48, MM 8 50]) (.seq (.seq (.reg [MM 51 8, OA 52 (.len false (TT 51)), OA 53 (.bin .eql (TT 52) (II 1))]) (.cond (TT 53) (.seq (.reg [OA 9 (.mv (.const (.int .u64 0)))]) (.seq (.seq (.reg [MM 54 7, OA 55 (.len
 false (TT 54)), OA 56 (.bin .sub (TT 55) (II 1)), MM 10 56]) (.block 1 (.loop (.seq (.seq (.reg [MM 57 10, OA 58 (.bin .geq (TT 57) (II 0))]) (.cond (TT 58) .skip (.exit 1))) (.seq (.block 2 (.seq (.reg [MM 61 9, OA 62 (.bin
 .shl (TT 61) (.const (.int .u64 32))), MM 63 7, MM 64 10, OA 65 (.K3 1 (TT 63) (TT 64)), VV 66 65, OA 67 (.conv .u64 (TT 66)), OA 68 (.bin .or (TT 62) (TT 67)), MM 9 68]) (.U6 [.q, .q, .q, .q, .q, .q, .q, .q, .q, .l, .q,
 .q, .q, .l, .l, .q, .e none false, .q] [MM 69 7, MM 70 10, MM 71 9, MM 72 8, OA 73 (.K3 1 (TT 72) (II 0)), VV 74 73, OA 75 (.conv .u64 (TT 74)), OA 76 (.bin .quo (TT 71) (TT 75)), OA 77 (.conv .u32 (TT 76)), MM 78 9, MM 79 8,
 OA 80 (.K3 1 (TT 79) (II 0)), VV 81 80, OA 82 (.conv .u64 (TT 81)), OA 83 (.bin .rem (TT 78) (TT 82)), OA 84 (.K3 1 (TT 69) (TT 70)), OB (.store 1 (TT 84) (TT 77)), MM 9 83]))) (.reg [MM 59 10, OA 60 (.bin .sub (TT 59) (II
 1)), MM 10 60])))))) (.seq (.reg [MM 85 7, OA 86 (.call 188 [TT 85]), MM 87 9, OA 88 (.call 185 [TT 87]), MM 4 86, MM 5 88, OA 6 (.mv (II 0))]) .ret))) .skip)) (.seq (.reg [MM 90 7, MM 91 8, OA 92 (.call 227 [TT 90, TT 91]), MM
 89 92, OA 93 (.ext (TT 89) 0), OA 94 (.ext (TT 89) 1), MM 11 93, MM 12 94]) (.seq (.reg [MM 95 11, OA 96 (.call 188 [TT 95]), MM 97 12, OA 98 (.call 188 [TT 97]), MM 4 96, MM 5 98, OA 6 (.mv (II 0))]) .ret))))))⟩
theorem b3V : a0r eff Tryz.prog Tryz.f183 = some a7N := by kernel_rfl
theorem b3O : Tryz.prog.funcs[183]? = some Tryz.f183 := Tryz.func183
def a6M : a1U := ⟨179, [.tmp 4, .tmp 5], .seq (.reg [OA 4 (.mv (.const (.slice none 0 0))), OA 5 (.mv (.const (.slice none 0 0)))]) (.seq (.reg [MM 15 1, MM 16 1, OA 17 (.len false (TT 16)), OA 18 (.bin .sub (TT 17) (II 1)), OA 19 (.K3 1 (TT
 15) (TT 18)), VV 20 19, OA 21 (.call 244 [TT 20]), MM 6 21]) (.seq (.reg [MM 22 1, OA 23 (.len false (TT 22)), MM 7 23]) (.seq (.U6 [.q, .q, .e none false, .l, .l, .e none false, .l, .q, .q, .q] [MM 24 0, MM 25 6, OA 26 (.call
 245 [TT 24, TT 25]), MM 27 1, MM 28 6, OA 29 (.call 245 [TT 27, TT 28]), MM 30 7, OA 31 (.a3z 1 (TT 29) none (some (TT 30))), MM 8 26, MM 9 31]) (.seq (.reg [MM 32 8, OA 33 (.len false (TT 32)), MM 34 7, OA 35 (.bin .sub (TT
 33) (TT 34)), OA 36 (.a2X 240 4 [.int .u32 0] (TT 35) (TT 35)), MM 4 36]) (.seq (.seq (.reg [MM 37 4, OA 38 (.len false (TT 37)), OA 39 (.bin .sub (TT 38) (II 1)), MM 10 39]) (.block 0 (.loop (.seq (.seq (.reg [MM 40 10, OA 41
 (.bin .geq (TT 40) (II 0))]) (.cond (TT 41) .skip (.exit 0))) (.seq (.block 1 (.seq (.U6 [.q, .q, .q, .q, .q, .q, .q, .q, .q, .q, .q, .q, .q, .q, .q, .q, .q, .q] [MM 44 8, MM 45 10, MM 46 7, OA 47 (.bin .add (TT 45) (TT 46)),
 OA 48 (.K3 1 (TT 44) (TT 47)), VV 49 48, OA 50 (.conv .u64 (TT 49)), OA 51 (.bin .shl (TT 50) (.const (.int .u64 32))), MM 52 8, MM 53 10, MM 54 7, OA 55 (.bin .add (TT 53) (TT 54)), OA 56 (.bin .sub (TT 55) (II 1)), OA 57
 (.K3 1 (TT 52) (TT 56)), VV 58 57, OA 59 (.conv .u64 (TT 58)), OA 60 (.bin .or (TT 51) (TT 59)), MM 11 60]) (.seq (.U6 [.q, .q, .q, .q, .q, .q, .q, .q, .q, .q, .q, .q, .q, .q, .q, .q, .q, .q] [MM 61 11, MM 62 9, MM 63 7, OA
 64 (.bin .sub (TT 63) (II 1)), OA 65 (.K3 1 (TT 62) (TT 64)), VV 66 65, OA 67 (.conv .u64 (TT 66)), OA 68 (.bin .quo (TT 61) (TT 67)), MM 69 11, MM 70 9, MM 71 7, OA 72 (.bin .sub (TT 71) (II 1)), OA 73 (.K3 1 (TT 70) (TT
 72)), VV 74 73, OA 75 (.conv .u64 (TT 74)), OA 76 (.bin .rem (TT 69) (TT 75)), MM 12 68, MM 13 76]) (.seq (.block 2 (.loop (.seq (.seq (.U6 [.q, .q, .q, .q, .q, .q, .q, .q, .q, .q, .q, .q, .q, .q, .q, .q, .q, .q, .q, .q, .q,
 .q, .q, .q, .q] [MM 77 12, OA 78 (.bin .shr (TT 77) (.const (.int .u64 32))), OA 79 (.bin .gtr (TT 78) (.const (.int .u64 0))), MM 80 79, MG 81 12 80 false, MG 82 9 80 false, MG 83 7 80 false, OC 84 (.bin .sub (TT 83) (II 2)) 80
 false, OC 85 (.K3 1 (TT 82) (TT 84)) 80 false, VG 86 85 80 false, OC 87 (.conv .u64 (TT 86)) 80 false, OC 88 (.bin .mul (TT 81) (TT 87)) 80 false, MG 89 13 80 false, OC 90 (.bin .shl (TT 89) (.const (.int .u64 32))) 80 false,
 MG 91 8 80 false, MG 92 10 80 false, MG 93 7 80 false, OC 94 (.bin .add (TT 92) (TT 93)) 80 false, OC 95 (.bin .sub (TT 94) (II 2)) 80 false, OC 96 (.K3 1 (TT 91) (TT 95)) 80 false, VG 97 96 80 false, OC 98 (.conv .u64 (TT
 97)) 80 false, OC 99 (.bin .or (TT 90) (TT 98)) 80 false, OC 100 (.bin .gtr (TT 88) (TT 99)) 80 false, OA 101 (.pick (TT 80) (.const (.bool true)) (TT 100))]) (.cond (TT 101) .skip (.exit 2))) (.block 3 (.seq (.reg [MM 102 12,
 OA 103 (.bin .sub (TT 102) (.const (.int .u64 1))), MM 12 103]) (.seq (.reg [MM 104 13, MM 105 9, MM 106 7, OA 107 (.bin .sub (TT 106) (II 1)), OA 108 (.K3 1 (TT 105) (TT 107)), VV 109 108, OA 110 (.conv .u64 (TT 109)), OA
 111 (.bin .add (TT 104) (TT 110)), MM 13 111]) (.seq (.reg [MM 112 13, OA 113 (.bin .shr (TT 112) (.const (.int .u64 32))), OA 114 (.bin .gtr (TT 113) (.const (.int .u64 0)))]) (.cond (TT 114) (.exit 2) .skip)))))))) (.seq (.seq
 (.reg [MM 115 8, MM 116 10, MM 117 10, MM 118 7, OA 119 (.bin .add (TT 117) (TT 118)), OA 120 (.bin .add (TT 119) (II 1)), OA 121 (.a3z 1 (TT 115) (some (TT 116)) (some (TT 120))), MM 122 9, MM 123 12, OA 124 (.call 246 [TT
 121, TT 122, TT 123])]) (.cond (TT 124) (.seq (.reg [MM 125 12, OA 126 (.bin .sub (TT 125) (.const (.int .u64 1))), MM 12 126]) (.reg [MM 127 8, MM 128 10, MM 129 10, MM 130 7, OA 131 (.bin .add (TT 129) (TT 130)), OA 132 (.bin
 .add (TT 131) (II 1)), OA 133 (.a3z 1 (TT 127) (some (TT 128)) (some (TT 132))), MM 134 9, OA 135 (.call 247 [TT 133, TT 134])])) .skip)) (.reg [MM 136 4, MM 137 10, MM 138 12, OA 139 (.conv .u32 (TT 138)), OA 140 (.K3 1 (TT
 136) (TT 137)), OB (.store 1 (TT 140) (TT 139))])))))) (.reg [MM 42 10, OA 43 (.bin .sub (TT 42) (II 1)), MM 10 43])))))) (.seq (.reg [MM 141 8, MM 142 7, OA 143 (.a3z 1 (TT 141) none (some (TT 142))), MM 5 143]) (.seq (.seq
 (.reg [MM 144 5, OA 145 (.len false (TT 144)), OA 146 (.mv (II 0))]) (.block 4 (.loop (.seq (.reg [OA 147 (.bin .lss (TT 146) (TT 145))]) (.seq (.cond (TT 147) .skip (.exit 4)) (.seq (.block 5 (.seq (.reg [MM 148 146, MM 14
 148]) (.seq (.reg [MM 149 5, MM 150 14, OA 151 (.K3 1 (TT 149) (TT 150)), VV 152 151, MM 153 6, OA 154 (.bin .shr (TT 152) (TT 153)), OA 155 (.K3 1 (TT 149) (TT 150)), OB (.store 1 (TT 155) (TT 154))]) (.seq (.reg [MM 156
 14, OA 157 (.bin .add (TT 156) (II 1)), MM 158 7, OA 159 (.bin .lss (TT 157) (TT 158))]) (.cond (TT 159) (.U6 [.q, .q, .q, .q, .q, .q, .q, .q, .q, .q, .q, .q, .q, .q, .q, .q, .e none true] [MM 160 5, MM 161 14, OA 162 (.K3
 1 (TT 160) (TT 161)), VV 163 162, MM 164 8, MM 165 14, OA 166 (.bin .add (TT 165) (II 1)), OA 167 (.K3 1 (TT 164) (TT 166)), VV 168 167, OA 169 (.conv .u64 (TT 168)), MM 170 6, OA 171 (.bin .sub (II 32) (TT 170)), OA 172
 (.bin .shl (TT 169) (TT 171)), OA 173 (.conv .u32 (TT 172)), OA 174 (.bin .or (TT 163) (TT 173)), OA 175 (.K3 1 (TT 160) (TT 161)), OB (.store 1 (TT 175) (TT 174))]) .skip))))) (.reg [OA 176 (.bin .add (TT 146) (II 1)), MM
 146 176]))))))) (.seq (.reg [MM 177 4, MM 178 5, MM 4 177, MM 5 178]) .ret))))))))⟩
theorem b2s : a0r eff Tryz.prog Tryz.f227 = some a6M := by kernel_rfl
theorem b2l : Tryz.prog.funcs[227]? = some Tryz.f227 := Tryz.func227
theorem kS {P : Program} {f : Nat} {fn : Func} {ir : a1U} (hf : P.funcs[f]? = some fn) (hc : a0r eff P fn = some ir) {args : List C} {r : C} (hn : Nat.ble args.length ir.ntmps = true) (h : ∀ w O, S ⟨P, eff, ir.ntmps, w, fun _ => False, O, [], []⟩ (Fin P ir.results (Out ⟨P, eff, ir.ntmps, w, fun _ => False, O, [], []⟩ r)) ⟨j6 0 args, []⟩ [.code ir.body]) : u6 P f args r := u6.of hf hc (c1Q hn) h
theorem kW {P : Program} {Pw : World -> Prop} {f : Nat} {fn : Func} {ir : a1U} (hf : P.funcs[f]? = some fn) (hc : a0r eff P fn = some ir) {args : List C} {r : C} (hn : Nat.ble args.length ir.ntmps = true) (h : ∀ w O, Pw w -> S ⟨P, eff, ir.ntmps, w, fun _ => False, O, [], []⟩ (Fin P ir.results (Out ⟨P, eff, ir.ntmps, w, fun _ => False, O, [], []⟩ r)) ⟨j6 0 args, []⟩ [.code ir.body]) : W9 P Pw f args r := W9.of hf hc (c1Q hn) h
theorem kcS {eff : Nat -> Bool} {P : Program} {N : Nat} {a b : Code} {x y : IC} (ha : comp eff P N a = some x) (hb : comp eff P N b = some y) : comp eff P N (.seq a b) = some (.seq x y) := by unfold comp; rw [ha, hb]
theorem kcC {eff : Nat -> Bool} {P : Program} {N : Nat} {c : Operand} {a b : Code} {x y : IC} (ha : comp eff P N a = some x) (hb : comp eff P N b = some y) : comp eff P N (.cond c a b) = some (.cond c x y) := by unfold comp; rw [ha, hb]
theorem kcB {eff : Nat -> Bool} {P : Program} {N i : Nat} {a : Code} {x : IC} (ha : comp eff P N a = some x) : comp eff P N (.block i a) = some (.block i x) := by unfold comp; rw [ha]
theorem kcL {eff : Nat -> Bool} {P : Program} {N : Nat} {a : Code} {x : IC} (ha : comp eff P N a = some x) : comp eff P N (.loop a) = some (.loop x) := by unfold comp; rw [ha]
theorem kcF {eff : Nat -> Bool} {P : Program} {f : Func} {c : Code} {rs : List RV} {ic : IC} (hb : f.body = some c) (hr : O9 P f.results.toList = some rs) (hc : comp eff P f.ntmps c = some ic) : a0r eff P f = some ⟨f.ntmps, rs, ic⟩ := by unfold a0r; rw [hb, hr]; simp only [hc]
open Go Go.RowKit Eng
set_option maxRecDepth 10000
set_option maxHeartbeats 1000000
theorem a6t (b : UInt8) : ((b.toNat : Int) = 0) = (b = 0) := propext ⟨fun h => UInt8.toNat.inj (by simp; omega), fun h => by subst h; rfl⟩
theorem a5w {α : Type} (x : α) (l : List α) : List.drop (Int.toNat 1) (List.take (l.length + 1) (x :: l)) = l := by simp
theorem a9w (v : Nat) (b : UInt8) : bits .or .u64 (IntKind.u64.wrap (((v % 18446744073709551616 : Nat) : Int) * 256)) (IntKind.u64.wrap ((b.toNat : Nat) : Int)) = (((256 * v + b.toNat) % 18446744073709551616 : Nat) : Int) := by
 have hb := b.toNat_lt
 have h1 : IntKind.u64.wrap (((v % 18446744073709551616 : Nat) : Int) * 256) = ((v % 18446744073709551616 * 256 % 18446744073709551616 : Nat) : Int) := by rw [<- a3O]; rfl
 rw [h1, a3O, a7H _ _ (by omega) (by omega), Nat.mod_eq_of_lt (a := b.toNat) (by omega), Nm.b3R _ _ (by omega)]
theorem a0B (l : List UInt8) (hl : l.length <= 1099511627776) : u6 Tryz.prog 184 [sb l] (sb (Nm.trim l)) := by
  refine kS Tryz.func184 (by cbv) (by rfl) fun w O => ?_
  simp only [j6, sb]
  (repeat first | refine uA ?_ | (refine uK ?_ ?_; focus first | omega | trivial | (intro h; rw [h]; rfl) | (intro h h2; rw [h, h2]; rfl) | (intro h; (try simp at h); omega) | (intros; simp_all <;> omega)) | simp only [go_sem, Nat.reduceBEq, Nat.reduceAdd, Nat.reduceLeDiff, Int.reduceToNat, Int.reducePow] | simp (disch := omega) only [ww])
  refine S.loop (X := List UInt8) (fun m => ⟨[(0, sb m)], []⟩) (fun m => Nm.trim m = Nm.trim l) (fun m => m.length) l rfl (by (repeat first | refine uA ?_ | (refine ⟨?_, ?_⟩; focus first | rfl | trivial | (simp [slot]; done)) | rfl | trivial | simp)) ?_
  intro m hm
  cases m with
  | nil =>
    simp only [sb]
    (repeat first | refine uA ?_ | (refine uK ?_ ?_; focus first | omega | trivial | (intro h; rw [h]; rfl) | (intro h h2; rw [h, h2]; rfl) | (intro h; (try simp at h); omega) | (intros; simp_all <;> omega)) | simp only [go_sem, Nat.reduceBEq, Nat.reduceAdd, Nat.reduceLeDiff, Int.reduceToNat, Int.reducePow, w9, List.length_nil] | simp (disch := omega) only [ww, w9, List.length_nil])
    (refine uJ rfl (fun hc => ?_) fun hc => ?_)
    · omega
    rw [<- hm]
    (repeat first | refine uA ?_ | (refine uK ?_ ?_; focus first | omega | trivial | (intro h; rw [h]; rfl) | (intro h h2; rw [h, h2]; rfl) | (intro h; (try simp at h); omega) | (intros; simp_all <;> omega)) | simp only [go_sem, Nat.reduceBEq, Nat.reduceAdd, Nat.reduceLeDiff, Int.reduceToNat, Int.reducePow] | simp (disch := omega) only [ww])
    exact S.done (d9.out rfl (Imp.refl rfl) rfl)
  | cons b m =>
    simp only [sb]
    (repeat first | refine uA ?_ | (refine uK ?_ ?_; focus first | omega | trivial | (intro h; rw [h]; rfl) | (intro h h2; rw [h, h2]; rfl) | (intro h; (try simp at h); omega) | (intros; simp_all <;> omega)) | simp only [go_sem, Nat.reduceBEq, Nat.reduceAdd, Nat.reduceLeDiff, Int.reduceToNat, Int.reducePow, w9, O8, c1T, List.getD_cons_zero, a8n, a6t] | simp (disch := omega) only [ww, w9, O8, c1T, List.getD_cons_zero, a8n, a6t])
    (refine uJ rfl (fun hc => ?_) fun hc => ?_)
    · obtain ⟨_, rfl⟩ := hc
      have hm2 : Nm.trim m = Nm.trim l := by rw [<- hm]; rfl
      (repeat first | refine uA ?_ | (refine uK ?_ ?_; focus first | omega | trivial | (intro h; rw [h]; rfl) | (intro h h2; rw [h, h2]; rfl) | (intro h; (try simp at h); omega) | (intros; simp_all <;> omega)) | simp only [go_sem, Nat.reduceBEq, Nat.reduceAdd, Nat.reduceLeDiff, Int.reduceToNat, Int.reducePow, w9, O8, c1T, a8n, c1U, List.take_succ_cons, List.drop_succ_cons, c1B, a5w] | simp (disch := omega) only [ww, w9, O8, c1T, a8n, c1U, List.take_succ_cons, List.drop_succ_cons, c1B, a5w])
      refine S.next (m := List.length) (x := 0 :: m) m hm2 (by simp) (by exact (by (repeat first | refine uA ?_ | (refine ⟨?_, ?_⟩; focus first | rfl | trivial | (simp [slot]; done)) | rfl | trivial | simp)))
    · have hb : b ≠ 0 := by
        intro hb
        rcases hc with hc | hc
        · omega
        · exact hc hb
      have he : Nm.trim l = b :: m := by rw [<- hm]; unfold Nm.trim; rw [if_neg hb]
      rw [he]
      (repeat first | refine uA ?_ | (refine uK ?_ ?_; focus first | omega | trivial | (intro h; rw [h]; rfl) | (intro h h2; rw [h, h2]; rfl) | (intro h; (try simp at h); omega) | (intros; simp_all <;> omega)) | simp only [go_sem, Nat.reduceBEq, Nat.reduceAdd, Nat.reduceLeDiff, Int.reduceToNat, Int.reducePow] | simp (disch := omega) only [ww])
      exact S.done (d9.out rfl (Imp.refl rfl) rfl)
theorem a1H (l : List UInt8) (hl : l.length <= 1099511627776) : u6 Tryz.prog 186 [sb l] (.v (.int .u64 ((Nm.val l % 18446744073709551616 : Nat) : Int))) := by
 refine kS Tryz.func186 (by cbv) (by rfl) fun w O => ?_
 simp only [j6, sb]
 (repeat first | refine uA ?_ | (refine uK ?_ ?_; focus first | omega | trivial | (intro h; rw [h]; rfl) | (intro h h2; rw [h, h2]; rfl) | (intro h; (try simp at h); omega) | (intros; simp_all <;> omega)) | simp only [go_sem, Nat.reduceBEq, Nat.reduceAdd, Nat.reduceLeDiff, Int.reduceToNat, Int.reducePow, w9] | simp (disch := omega) only [ww, w9])
 refine S.loop (X := Nat) (fun i => ⟨[(0, sb l), (3, .v (.int .u64 ((Nm.val (l.take i) % 18446744073709551616 : Nat) : Int))), (6, ints l.length), (7, ints i)], []⟩) (fun i => i <= l.length) (fun i => l.length - i) 0 (c1H _) (by (repeat first | refine uA ?_ | (refine ⟨?_, ?_⟩; focus first | rfl | trivial | (simp [slot]; done)) | rfl | trivial | simp)) ?_
 intro i hi
 simp only [sb, ints]
 (repeat first | refine uA ?_ | (refine uK ?_ ?_; focus first | omega | trivial | (intro h; rw [h]; rfl) | (intro h h2; rw [h, h2]; rfl) | (intro h; (try simp at h); omega) | (intros; simp_all <;> omega)) | simp only [go_sem, Nat.reduceBEq, Nat.reduceAdd, Nat.reduceLeDiff, Int.reduceToNat, Int.reducePow] | simp (disch := omega) only [ww])
 (refine uJ rfl (fun hc => ?_) fun hc => ?_)
 ·have hi' : i < l.length := by omega
  have hg : l.getD i 0 = l[i] := by rw [c1O, c1x hi']; rfl
  have hv : Nm.val (l.take (i + 1)) = 256 * Nm.val (l.take i) + l[i].toNat := by rw [c2o hi', Nm.b0H]
  have hb := l[i].toNat_lt
  (repeat first | refine uA ?_ | (refine uK ?_ ?_; focus first | omega | trivial | (intro h; rw [h]; rfl) | (intro h h2; rw [h, h2]; rfl) | (intro h; (try simp at h); omega) | (intros; simp_all <;> omega)) | simp only [go_sem, Nat.reduceBEq, Nat.reduceAdd, Nat.reduceLeDiff, Int.reduceToNat, Int.reducePow, w9, O8, hg, a9w] | simp (disch := omega) only [ww, w9, O8, hg, a9w])
  refine S.next (i + 1) hi' (by omega) (by rw [hv]; exact (by (repeat first | refine uA ?_ | (refine ⟨?_, ?_⟩; focus first | rfl | trivial | (simp [slot]; done)) | rfl | trivial | simp)))
 ·have hi' : i = l.length := by omega
  subst hi'
  rw [c1U]
  (repeat first | refine uA ?_ | (refine uK ?_ ?_; focus first | omega | trivial | (intro h; rw [h]; rfl) | (intro h h2; rw [h, h2]; rfl) | (intro h; (try simp at h); omega) | (intros; simp_all <;> omega)) | simp only [go_sem, Nat.reduceBEq, Nat.reduceAdd, Nat.reduceLeDiff, Int.reduceToNat, Int.reducePow] | simp (disch := omega) only [ww])
  exact S.done (d9.out rfl (Imp.refl rfl) rfl)
def b8 (n i : Nat) : List C := ((Nm.be8 n).take i ++ List.replicate (8 - i) 0).map fun b : UInt8 => .v (.int .u8 ((b.toNat : Nat) : Int))
theorem a5m (n k : Nat) : IntKind.u8.wrap (Int.fdiv (n : Int) (k : Int)) = (((Nm.oB (n / k)).toNat : Nat) : Int) := by
 rw [a1C, a1t, Nm.a1u]
theorem b4O (n i : Nat) (h : i <= 8) : (b8 n i).length = 8 := by simp [b8, Nm.be8]; omega
theorem b9j (n : Nat) : b8 n 0 = [.v (.int .u8 0), .v (.int .u8 0), .v (.int .u8 0), .v (.int .u8 0), .v (.int .u8 0), .v (.int .u8 0), .v (.int .u8 0), .v (.int .u8 0)] := rfl
theorem b8F (n i : Nat) (h : i < 8) : (b8 n i).take i ++ [C.v (.int .u8 (IntKind.u8.wrap (Int.fdiv (n : Int) (2 ^ min (56 - 8 * (i : Int)).toNat 64))))] ++ (b8 n i).drop (i + 1) = b8 n (i + 1) := by
 have : i = 0 \/ i = 1 \/ i = 2 \/ i = 3 \/ i = 4 \/ i = 5 \/ i = 6 \/ i = 7 := by omega
 have e : IntKind.u8.wrap (Int.fdiv (n : Int) (2 ^ min (56 - 8 * (i : Int)).toNat 64)) = (((Nm.oB (n / 2 ^ (56 - 8 * i))).toNat : Nat) : Int) := by
  rw [<- a5m, show min (56 - 8 * (i : Int)).toNat 64 = 56 - 8 * i by omega]
  congr 2
 rw [e]
 rcases this with rfl | rfl | rfl | rfl | rfl | rfl | rfl | rfl <;> simp [b8, Nm.be8, List.replicate]
theorem b2y {α : Type} (k : Nat) (f : α -> Value) : ∀ l : List α, C.bdL k (l.map fun x => .v (f x)) = true
 | [] => rfl
 | x :: l => by simp only [c1R, C.bdL, C.bd, Bool.true_and]; exact b2y k f l
theorem b0T (n : Nat) : V8 (List.map a8H (List.take 8 (b8 n 8))) = some (Nm.be8 n) := by
 have : List.map a8H (List.take 8 (b8 n 8)) = (Nm.be8 n).map F8 := by simp [b8, Nm.be8, a8H, F8]
 rw [this, Q5]
theorem a0p (n : Nat) (hn : n < 18446744073709551616) : u6 Tryz.prog 185 [.v (.int .u64 (n : Int))] (sb (Nm.enc n)) := by
 refine kS Tryz.func185 (by cbv) (by rfl) fun w O => ?_
 simp only [j6, sb]
 (repeat first | refine uA ?_ | (refine uK ?_ ?_; focus first | omega | trivial | (intro h; rw [h]; rfl) | (intro h h2; rw [h, h2]; rfl) | (intro h; (try simp at h); omega) | (intros; simp_all <;> omega)) | simp only [go_sem, Nat.reduceBEq, Nat.reduceAdd, Nat.reduceLeDiff, Int.reduceToNat, Int.reducePow] | simp (disch := omega) only [ww])
 refine S.loop (X := Nat) (fun i => ⟨[(0, .v (.int .u64 (n : Int))), (3, .bp 0 0), (5, ints i)], [.box 273 (b8 n i)]⟩) (fun i => i <= 8) (fun i => 8 - i) 0 (c1H _) (by rw [b9j]; exact (by (repeat first | refine uA ?_ | (refine ⟨?_, ?_⟩; focus first | rfl | trivial | (simp [slot]; done)) | rfl | trivial | simp))) ?_
 intro i hi
 simp only [ints]
 (repeat first | refine uA ?_ | (refine uK ?_ ?_; focus first | omega | trivial | (intro h; rw [h]; rfl) | (intro h h2; rw [h, h2]; rfl) | (intro h; (try simp at h); omega) | (intros; simp_all <;> omega)) | simp only [go_sem, Nat.reduceBEq, Nat.reduceAdd, Nat.reduceLeDiff, Int.reduceToNat, Int.reducePow] | simp (disch := omega) only [ww])
 (refine uJ rfl (fun hc => ?_) fun hc => ?_)
 ·have hlen := b4O n i (by omega)
  (repeat first | refine uA ?_ | (refine uK ?_ ?_; focus first | omega | trivial | (intro h; rw [h]; rfl) | (intro h h2; rw [h, h2]; rfl) | (intro h; (try simp at h); omega) | (intros; simp_all <;> omega)) | simp only [go_sem, Nat.reduceBEq, Nat.reduceAdd, Nat.reduceLeDiff, Int.reduceToNat, Int.reducePow, c2e, Nat.mul_one] | simp (disch := omega) only [ww, c2e, Nat.mul_one])
  refine S.next (i + 1) (by omega) (by omega) (by rw [b8F n i (by omega)]; exact Ent.mk _ _ (by (repeat first | refine uA ?_ | (refine ⟨?_, ?_⟩; focus first | rfl | trivial | (simp [slot]; done)) | rfl | trivial | simp)) (L9.cons (RI.box _ _ _ (j5.refl (b2y _ _ _))) L9.nil) (c1H _))
 ·have hi8 : i = 8 := by omega
  subst hi8
  have hlen := b4O n 8 (by omega)
  (repeat first | refine uA ?_ | (refine uK ?_ ?_; focus first | omega | trivial | (intro h; rw [h]; rfl) | (intro h h2; rw [h, h2]; rfl) | (intro h; (try simp at h); omega) | (intros; simp_all <;> omega)) | simp only [go_sem, Nat.reduceBEq, Nat.reduceAdd, Nat.reduceLeDiff, Int.reduceToNat, Int.reducePow, b0T, a1P, Nm.b0j hn] | simp (disch := omega) only [ww, b0T, a1P, Nm.b0j hn] | (refine uB (a0B (Nm.be8 n) (c1Q rfl)) ?_ ?_; exact rfl))
  exact S.done (d9.out rfl (Imp.refl rfl) rfl)
theorem b4f (n : Int) (hn : n <= 9223372036854775807) : u6 Tryz.prog 178 [ints n] (sb (Nm.enc n.toNat)) := by
 refine kS Tryz.func178 (by cbv) (by rfl) fun w O => ?_
 simp only [j6, sb, ints]
 (repeat first | refine uA ?_ | (refine uK ?_ ?_; focus first | omega | trivial | (intro h; rw [h]; rfl) | (intro h h2; rw [h, h2]; rfl) | (intro h; (try simp at h); omega) | (intros; simp_all <;> omega)) | simp only [go_sem, Nat.reduceBEq, Nat.reduceAdd, Nat.reduceLeDiff, Int.reduceToNat, Int.reducePow] | simp (disch := omega) only [ww])
 (refine uJ rfl (fun hc => ?_) fun hc => ?_)
 ·have h0 : n.toNat = 0 := by omega
  rw [h0, Nm.a1e]
  (repeat first | refine uA ?_ | (refine uK ?_ ?_; focus first | omega | trivial | (intro h; rw [h]; rfl) | (intro h h2; rw [h, h2]; rfl) | (intro h; (try simp at h); omega) | (intros; simp_all <;> omega)) | simp only [go_sem, Nat.reduceBEq, Nat.reduceAdd, Nat.reduceLeDiff, Int.reduceToNat, Int.reducePow] | simp (disch := omega) only [ww])
  exact S.done (d9.out rfl (Imp.refl rfl) rfl)
 ·obtain ⟨m, rfl⟩ := Int.eq_ofNat_of_zero_le (show 0 <= n by omega)
  (repeat first | refine uA ?_ | (refine uK ?_ ?_; focus first | omega | trivial | (intro h; rw [h]; rfl) | (intro h h2; rw [h, h2]; rfl) | (intro h; (try simp at h); omega) | (intros; simp_all <;> omega)) | simp only [go_sem, Nat.reduceBEq, Nat.reduceAdd, Nat.reduceLeDiff, Int.reduceToNat, Int.reducePow] | simp (disch := omega) only [ww] | (refine uB (a0p m (by omega)) ?_ ?_; exact rfl))
  exact S.done (d9.out rfl (Imp.refl rfl) rfl)
end Go.Proofs.YtogfpjohjphngaaGreatDoor
namespace Go.Proofs.YtogfpjohjphngaaGreatDoor.Eng
open Go Go.RowKit
def c0q (E : Ctx) (e sz : Nat) (es : List (List C)) (y : Value) (w' : World) : Prop :=
 Below E.w0.heap.size E.w0 w' /\ (∀ b, D7 y = some b -> E.w0.heap.size <= b /\ b < w'.heap.size) /\ K9 [] w' (fun b => E.av b \/ D7 y = some b) y (.row e sz es)
def FNew (P : Program) (f : Nat) (args : List C) (e sz : Nat) (es : List (List C)) : Prop := ∀ (O : Nat -> Prop) (w : World) (vs : List Value), (∀ b, O b -> b < w.heap.size) -> FzL w O args vs ->
 Calls P f vs.toArray w fun ee w' => ∃ y, ee = .returned y /\ Below w.heap.size w w' /\ (∀ b, D7 y = some b -> w.heap.size <= b /\ b < w'.heap.size) /\ K9 [] w' (fun b => O b \/ D7 y = some b) y (.row e sz es)
theorem a4P {w : World} {O O' : Nat -> Prop} {ν ν' : List Value} {x : Value} {e sz : Nat} {es : List (List C)} (h : ∀ b, O' b -> O b) (hr : K9 ν w O x (.row e sz es)) : K9 ν' w O' x (.row e sz es) := by
 obtain ⟨h0, vs, h1, h2, h3⟩ := hr
 exact ⟨h0, vs, FzL.keep (Keeps.sub h) h1, h2, h3⟩
theorem d9.new {E : Ctx} (hown : E.own0 = fun _ => False) {rs : List Res} {cs : List C} {k e sz : Nat} {es : List (List C)} (h : a8u cs = .rv k) (hk : rs[k]? = some (.row e sz es)) : d9 E rs (c0q E e sz es) cs := by
 intro wf ν w y hR hF hN hd
 rw [h] at hd
 simp only [Den] at hd
 have hok := hR.get hk hd.1
 have hown' : ∀ b, D7 y = some b -> owned rs ν b := fun b hb => ⟨k, _, y, hk, hd.1, hb⟩
 refine ⟨⟨hF.os, hF.tape, hF.output, hF.size, fun b hb => hF.block b hb (by rw [hown]; exact fun h => h)⟩, fun b hb => ?_, a4P (fun b hb => ?_) hok⟩
 ·obtain ⟨h1, h2, h3⟩ := hR.low b (hown' b hb)
  rw [hown] at h3
  rcases h3 with h3 | h3
  ·exact h3.elim
  ·exact ⟨h3, h1⟩
 ·rcases hb with hb | hb
  ·exact .inl hb
  ·exact .inr (hown' b hb)
theorem FNew.of {eff : Nat -> Bool} {P : Program} {f : Nat} {fn : Func} {ir : a1U} (hf : P.funcs[f]? = some fn) (hc : a0r eff P fn = some ir) {args : List C} {e sz : Nat} {es : List (List C)} (hn : args.length <= ir.ntmps)
  (h : ∀ w O, S ⟨P, eff, ir.ntmps, w, fun _ => False, O, [], []⟩ (Fin P ir.results (c0q ⟨P, eff, ir.ntmps, w, fun _ => False, O, [], []⟩ e sz es)) ⟨j6 0 args, []⟩ [.code ir.body]) : FNew P f args e sz es := by
 intro O w vs hO hargs
 exact enter hf hc O hO args hargs hn (h w O)
theorem FNew.spec {P : Program} {f : Nat} {args : List C} {e sz : Nat} {es : List (List C)} (h : FNew P f args e sz es) : u6 P f args (.sl sz es) := by
 intro O w vs hO hA
 refine (h O w vs hO hA).mono ?_
 rintro ee w' ⟨y, rfl, h1, h2, h0, us, h3, h4, h5⟩
 refine ⟨y, rfl, h1, b4Z h5 rfl h0 (FzL.keep (Keeps.sub fun b hb => .inl hb) h3) h4 fun b hb => ?_⟩
 obtain ⟨h6, h7⟩ := h2 b hb
 exact ⟨h7, fun hb' => by have := hO b hb'; omega⟩
theorem FNew.t {E : Ctx} {rs : List Res} {f : Nat} {args : List C} {e sz : Nat} {es : List (List C)} (h : FNew E.P f args e sz es) (hb : (C.bdL rs.length args && C.clL args) = true) : l8 E rs f args (.rv rs.length) (rs ++ [.row e sz es]) [] := by
 rw [c1J] at hb
 intro av ν w vs hR hav hF hD
 have hlt : ∀ b, OO av rs ν b -> b < w.heap.size := fun b hb => by
  rcases hb with hb | hb
  ·exact hR.av b hb
  ·exact (hR.low b hb).1
 refine (h (OO av rs ν) w vs hlt (hD.fz hb.2)).mono ?_
 rintro ee w' ⟨y, rfl, h1, h2, h3⟩
 have hadd := hR.add (x := y) (r := .row e sz es) h1 h2 (fun _ _ => a4P (fun b hb => by
  rcases hb with hb | ⟨k, q, z, hk, hz, hf⟩
  ·exact .inl (.inl hb)
  ·rcases c1V k rs.length with hlt | hge
   ·rw [c1K hlt] at hk
    rw [c1K (by rw [hR.len]; exact hlt)] at hz
    exact .inl (.inr ⟨k, q, z, hk, hz, hf⟩)
   ·rw [c1P hge] at hk
    rw [c1P (by rw [hR.len]; exact hge), hR.len] at hz
    cases hi : k - rs.length with
    | zero =>
     rw [hi] at hk hz
     simp at hk hz
     subst hk hz
     exact .inr hf
    | succ n => rw [hi] at hk; simp at hk) h3)
 refine ⟨y, ν ++ [y], rfl, hadd.1, hadd.2, ?_⟩
 simp only [Den]
 obtain ⟨_, us, _, _, h5⟩ := h3
 exact ⟨by rw [<- hR.len]; simp, h5.slice.elim fun A h => h.elim fun c h => ⟨A, _, c, h⟩⟩
theorem l9.vw {E : Ctx} {rs : List Res} {f : Nat} {args args' : List C} {K : C -> List Res -> List Nat -> Prop} {r : C} (hs : u6 E.P f args' r) (hi : j5 rs [] args args') (hcl : C.clL args' = true) (hr : r.flat = true) (hk : K r rs []) : l9 E rs f args K :=
 l9.quiet (P6.view (fun _ => hs) (fun _ => hi) (fun _ => hcl) hr) hk
theorem a0K.vw {E : Ctx} {rs : List Res} {p : Bool} {f : Nat} {args args' : List C} {K : C -> Prop} {r : C} (hs : u6 E.P f args' r) (hi : j5 rs [] args args') (hcl : C.clL args' = true) (hr : r.flat = true) (hk : K r) : a0K E rs p f args K :=
 a0K.mk (P6.view (fun _ => hs) (fun _ => hi) (fun _ => hcl) hr) hk
end Go.Proofs.YtogfpjohjphngaaGreatDoor.Eng
namespace Go.Proofs.YtogfpjohjphngaaGreatDoor
open Go Go.RowKit Eng
set_option maxRecDepth 10000
set_option maxHeartbeats 1000000
def ws (l : List Nat) : List (List C) := l.map wd
theorem q9 (l : List Nat) : (ws l).length = l.length := by simp [ws]
theorem D5 (l : List Nat) (i : Nat) : (ws l)[i]? = (l[i]?).map wd := by simp [ws]
theorem G7 (l : List Nat) (i v : Nat) : (ws l).set i [.v (.int .u32 (v : Int))] = ws (l.set i v) := by
 simp [ws, wd, List.map_set]
theorem a2j (n : Nat) : List.replicate n [C.v (.int .u32 0)] = ws (List.replicate n 0) := by simp [ws, wd]
theorem c0c (n : Nat) (h : n <= 1099511627776) : IntKind.i64.wrap (((n : Int) + 3).tdiv 4) = (((n + 3) / 4 : Nat) : Int) := by
 have : ((n : Int) + 3).tdiv 4 = (((n + 3) / 4 : Nat) : Int) := rfl
 rw [this, Eng.wrap_i64 (by omega)]
theorem c0r (i : Nat) (h : i <= 1099511627776) : IntKind.i64.wrap ((i : Int).tdiv 4) = ((i / 4 : Nat) : Int) := by
 have : (i : Int).tdiv 4 = ((i / 4 : Nat) : Int) := rfl
 rw [this, Eng.wrap_i64 (by omega)]
theorem b7I (i : Nat) : (i : Int).tmod 4 = ((i % 4 : Nat) : Int) := rfl
theorem a8V (o : Nat) (b : UInt8) (i : Nat) (ho : o < 4294967296) (hb : b.toNat * 2 ^ (8 * (i % 4)) < 4294967296) :
  bits .or .u32 (o : Int) (IntKind.u32.wrap (IntKind.u32.wrap ((b.toNat : Nat) : Int) * 2 ^ min (((i % 4 : Nat) : Int) * 8).toNat 32)) = ((o ||| b.toNat * 2 ^ (8 * (i % 4)) : Nat) : Int) := by
 have h0 := b.toNat_lt
 rw [Eng.wrap_u32 (n := ((b.toNat : Nat) : Int)) (by omega), show min (((i % 4 : Nat) : Int) * 8).toNat 32 = 8 * (i % 4) by omega]
 have e : ((b.toNat : Nat) : Int) * 2 ^ (8 * (i % 4)) = ((b.toNat * 2 ^ (8 * (i % 4)) : Nat) : Int) := by rw [Int.natCast_mul, Int.natCast_pow]; rfl
 rw [e, Eng.wrap_u32 (by omega), b4u _ _ ho hb]
theorem a1K (l : List UInt8) (hl : l.length <= 1099511627776) : FNew Tryz.prog 187 [sb l] 240 1 (ws (Nm.H9 l)) := by
 refine FNew.of (eff := eff) Tryz.func187 (by cbv) (by exact c1Q rfl) fun w O => ?_
 simp only [j6, sb]
 have htl := Nm.V5 l
 have hend := fun out h => Nm.b1c (l := l) (out := out) h
 have ht := a0B l hl
 generalize Nm.trim l = m at *
 have hm : m.length <= 1099511627776 := by omega
 (repeat first | refine uA ?_ | (refine uK ?_ ?_; focus first | omega | trivial | (intro h; rw [h]; rfl) | (intro h h2; rw [h, h2]; rfl) | (intro h; (try simp at h); omega) | (intros; simp_all <;> omega)) | simp only [go_sem, Nat.reduceBEq, Nat.reduceAdd, Nat.reduceLeDiff, Int.reduceToNat, Int.reducePow, w9, c0c m.length hm] | simp (disch := omega) only [ww, w9, c0c m.length hm] | (refine uB ht ?_ ?_; exact rfl))
 refine S.loop (X := Nat × List Nat) (fun x => ⟨[(0, sb m), (3, .rv 0), (14, ints m.length), (15, ints x.1)], [.row 240 1 (ws x.2)]⟩) (fun x => x.1 <= m.length /\ Nm.a3G m x.1 x.2) (fun x => m.length - x.1) (0, List.replicate ((m.length + 3) / 4) 0) ⟨c1H _, Nm.a9F m⟩ (by simp only [<- a2j]; exact (by (repeat first | refine uA ?_ | (refine ⟨?_, ?_⟩; focus first | rfl | trivial | (simp [slot]; done)) | rfl | trivial | simp))) ?_
 rintro ⟨i, out⟩ ⟨hi, hinv⟩
 simp only [sb, ints] at hi hinv ⊢
 (repeat first | refine uA ?_ | (refine uK ?_ ?_; focus first | omega | trivial | (intro h; rw [h]; rfl) | (intro h h2; rw [h, h2]; rfl) | (intro h; (try simp at h); omega) | (intros; simp_all <;> omega)) | simp only [go_sem, Nat.reduceBEq, Nat.reduceAdd, Nat.reduceLeDiff, Int.reduceToNat, Int.reducePow] | simp (disch := omega) only [ww])
 (refine uJ rfl (fun hc => ?_) fun hc => ?_)
 ·have hi' : i < m.length := by omega
  have hol := hinv.1
  have hj : i / 4 < out.length := by omega
  obtain ⟨hst, hlt, hbl⟩ := Nm.a9K hinv hi' hj
  have hgo : out[i / 4]? = some out[i / 4] := c1x hj
  have ho32 := hinv.2.1 _ (c1N hj)
  have hgm : m.getD ((m.length : Int) - 1 - (i : Int)).toNat 0 = m[m.length - 1 - i] := by
   rw [show ((m.length : Int) - 1 - (i : Int)).toNat = m.length - 1 - i by omega, c1O, c1x (by omega)]
   rfl
  (repeat first | refine uA ?_ | (refine uK ?_ ?_; focus first | omega | trivial | (intro h; rw [h]; rfl) | (intro h h2; rw [h, h2]; rfl) | (intro h; (try simp at h); omega) | (intros; simp_all <;> omega)) | simp only [go_sem, Nat.reduceBEq, Nat.reduceAdd, Nat.reduceLeDiff, Int.reduceToNat, Int.reducePow, w9, O8, q9, D5, hgo, c1z, hgm, c0r i (by omega), b7I, wd, a8V _ _ _ ho32 hbl, G7] | simp (disch := omega) only [ww, w9, O8, q9, D5, hgo, c1z, hgm, c0r i (by omega), b7I, wd, a8V _ _ _ ho32 hbl, G7])
  refine S.next (x := (i, out)) (i + 1, _) ⟨hi', hst⟩ (by simp only; omega) (by (repeat first | refine uA ?_ | (refine ⟨?_, ?_⟩; focus first | rfl | trivial | (simp [slot]; done)) | rfl | trivial | simp))
 ·have hi' : i = m.length := by omega
  subst hi'
  (repeat first | refine uA ?_ | (refine uK ?_ ?_; focus first | omega | trivial | (intro h; rw [h]; rfl) | (intro h h2; rw [h, h2]; rfl) | (intro h; (try simp at h); omega) | (intros; simp_all <;> omega)) | simp only [go_sem, Nat.reduceBEq, Nat.reduceAdd, Nat.reduceLeDiff, Int.reduceToNat, Int.reducePow] | simp (disch := omega) only [ww])
  rw [<- hend _ hinv]
  exact S.done (d9.new rfl rfl rfl)
theorem b1d (n k : Nat) : IntKind.u8.wrap (Int.fdiv (n : Int) (k : Int)) = (((Nm.oB (n / k)).toNat : Nat) : Int) := a5m n k
theorem a2U (l : List UInt8) (i : Nat) (v : UInt8) : (l.map F8).set i [.v (.int .u8 ((v.toNat : Nat) : Int))] = (l.set i v).map F8 := by
 simp [F8, List.map_set]
theorem a2w (n : Nat) : List.replicate n [C.v (.int .u8 0)] = (List.replicate n (0 : UInt8)).map F8 := by simp [F8]
theorem a3y (l : List Nat) (hl : l.length <= 274877906944) (hw : Nm.F6 l) : u6 Tryz.prog 188 [.sl 1 (ws l)] (sb (Nm.enc (Nm.wv 4294967296 l))) := by
 refine kS Tryz.func188 (by cbv) (by rfl) fun w O => ?_
 simp only [j6, sb]
 (repeat first | refine uA ?_ | (refine uK ?_ ?_; focus first | omega | trivial | (intro h; rw [h]; rfl) | (intro h h2; rw [h, h2]; rfl) | (intro h; (try simp at h); omega) | (intros; simp_all <;> omega)) | simp only [go_sem, Nat.reduceBEq, Nat.reduceAdd, Nat.reduceLeDiff, Int.reduceToNat, Int.reducePow, q9] | simp (disch := omega) only [ww, q9])
 refine S.loop (X := Nat × List UInt8) (fun x => ⟨[(0, .sl 1 (ws l)), (3, .rv 0), (11, .sl 1 (ws l)), (12, ints l.length), (13, ints x.1)], [.row 5 1 (x.2.map F8)]⟩) (fun x => x.1 <= l.length /\ Nm.a4B l x.1 x.2) (fun x => l.length - x.1) (0, List.replicate (4 * l.length) 0) ⟨c1H _, Nm.b0W l⟩ (by simp only [<- a2w, q9]; exact (by (repeat first | refine uA ?_ | (refine ⟨?_, ?_⟩; focus first | rfl | trivial | (simp [slot]; done)) | rfl | trivial | simp))) ?_
 rintro ⟨i, b⟩ ⟨hi, hinv⟩
 simp only [ints] at hi hinv ⊢
 have hbl := hinv.1
 (repeat first | refine uA ?_ | (refine uK ?_ ?_; focus first | omega | trivial | (intro h; rw [h]; rfl) | (intro h h2; rw [h, h2]; rfl) | (intro h; (try simp at h); omega) | (intros; simp_all <;> omega)) | simp only [go_sem, Nat.reduceBEq, Nat.reduceAdd, Nat.reduceLeDiff, Int.reduceToNat, Int.reducePow] | simp (disch := omega) only [ww])
 (refine uJ rfl (fun hc => ?_) fun hc => ?_)
 ·have hi' : i < l.length := by omega
  have hgl : l[i]? = some l[i] := c1x hi'
  have hw32 := hw _ (c1N hi')
  have hk : (l.length : Int) - 1 - (i : Int) = ((l.length - 1 - i : Nat) : Int) := by omega
  have hst := Nm.b0x hinv hi' hw32 (Nm.a1u (l[i] / 16777216)) (Nm.a1u (l[i] / 65536)) (Nm.a1u (l[i] / 256)) (Nm.a1u l[i])
  have w1 : IntKind.u8.wrap ((l[i] : Int).fdiv 16777216) = (((Nm.oB (l[i] / 16777216)).toNat : Nat) : Int) := b1d l[i] 16777216
  have w2 : IntKind.u8.wrap ((l[i] : Int).fdiv 65536) = (((Nm.oB (l[i] / 65536)).toNat : Nat) : Int) := b1d l[i] 65536
  have w3 : IntKind.u8.wrap ((l[i] : Int).fdiv 256) = (((Nm.oB (l[i] / 256)).toNat : Nat) : Int) := b1d l[i] 256
  have w4 : IntKind.u8.wrap (l[i] : Int) = (((Nm.oB l[i]).toNat : Nat) : Int) := by rw [a1t, Nm.a1u]
  generalize Nm.oB (l[i] / 16777216) = x0 at *
  generalize Nm.oB (l[i] / 65536) = x1 at *
  generalize Nm.oB (l[i] / 256) = x2 at *
  generalize Nm.oB l[i] = x3 at *
  generalize hkk : l.length - 1 - i = k at *
  have n0 : (4 * (k : Int)).toNat = 4 * k := by omega
  have n1 : (4 * (k : Int) + 1).toNat = 4 * k + 1 := by omega
  have n2 : (4 * (k : Int) + 2).toNat = 4 * k + 2 := by omega
  have n3 : (4 * (k : Int) + 3).toNat = 4 * k + 3 := by omega
  have g0 : b[4 * k]? = some b[4 * k] := c1x (by omega)
  have g1 : (b.set (4 * k) x0)[4 * k + 1]? = some _ := c1x (by simp; omega)
  have g2 : ((b.set (4 * k) x0).set (4 * k + 1) x1)[4 * k + 2]? = some _ := c1x (by simp; omega)
  have g3 : (((b.set (4 * k) x0).set (4 * k + 1) x1).set (4 * k + 2) x2)[4 * k + 3]? = some _ := c1x (by simp; omega)
  (repeat first | refine uA ?_ | (refine uK ?_ ?_; focus first | omega | trivial | (intro h; rw [h]; rfl) | (intro h h2; rw [h, h2]; rfl) | (intro h; (try simp at h); omega) | (intros; simp_all <;> omega)) | simp only [go_sem, Nat.reduceBEq, Nat.reduceAdd, Nat.reduceLeDiff, Int.reduceToNat, Int.reducePow, q9, D5, hgl, c1z, wd, hk, w1, w2, w3, w4, n0, n1, n2, n3, g0, g1, g2, g3, a2U, F8, c2g, c2n] | simp (disch := omega) only [ww, q9, D5, hgl, c1z, wd, hk, w1, w2, w3, w4, n0, n1, n2, n3, g0, g1, g2, g3, a2U, F8, c2g, c2n])
  refine S.next (x := (i, b)) (i + 1, _) ⟨hi', hst⟩ (by simp only; omega) (by (repeat first | refine uA ?_ | (refine ⟨?_, ?_⟩; focus first | rfl | trivial | (simp [slot]; done)) | rfl | trivial | simp))
 ·have hi' : i = l.length := by omega
  subst hi'
  have hend := Nm.b1K hinv
  (repeat first | refine uA ?_ | (refine uK ?_ ?_; focus first | omega | trivial | (intro h; rw [h]; rfl) | (intro h h2; rw [h, h2]; rfl) | (intro h; (try simp at h); omega) | (intros; simp_all <;> omega)) | simp only [go_sem, Nat.reduceBEq, Nat.reduceAdd, Nat.reduceLeDiff, Int.reduceToNat, Int.reducePow, Q5, a1P, hend] | simp (disch := omega) only [ww, Q5, a1P, hend] | (refine uB (a0B b (by omega)) ?_ ?_; exact rfl))
  exact S.done (d9.out rfl (Imp.refl rfl) rfl)
theorem a1i (n : Nat) : IntKind.u32.wrap (n : Int) = ((n % 4294967296 : Nat) : Int) := b0t n
theorem Z6 (n : Nat) : Int.fdiv (n : Int) 4294967296 = ((n / 4294967296 : Nat) : Int) := a1C n 4294967296
theorem f_add (a b : List UInt8) (ha : a.length <= 549755813888) (hb : b.length <= 549755813888) : u6 Tryz.prog 179 [sb a, sb b] (sb (Nm.enc (Nm.val a + Nm.val b))) := by
 refine kS Tryz.func179 (by cbv) (by rfl) fun w O => ?_
 simp only [j6, sb]
 have hta := Nm.V5 a
 have htb := Nm.V5 b
 have hva := Nm.O3 a
 have hvb := Nm.O3 b
 have hla := Nm.R9 (Nm.trim a)
 have hlb := Nm.R9 (Nm.trim b)
 have hwa := Nm.a0g (Nm.trim a)
 have hwb := Nm.a0g (Nm.trim b)
 have h3a := Nm.a0e (Nm.trim a)
 have h3b := Nm.a0e (Nm.trim b)
 have fta := a0B a (by omega)
 have ftb := a0B b (by omega)
 rw [Nm.a6c] at hla hlb
 generalize Nm.trim a = x at *
 generalize Nm.trim b = y at *
 (repeat first | refine uA ?_ | (refine uK ?_ ?_; focus first | omega | trivial | (intros; simp_all <;> omega)) | simp (disch := omega) only [go_sem, Nat.reduceBEq, Nat.reduceAdd, Nat.reduceLeDiff, Int.reduceToNat, Int.reducePow, ww, w9] | (refine uB fta ?_ ?_; exact rfl) | (refine uB ftb ?_ ?_; exact rfl))
 (refine uJ rfl (fun hc => ?_) fun hc => ?_)
 ·obtain ⟨h1, h2⟩ := hc
  have hx := Nm.a0c (l := x) (k := 7) (by omega)
  have hy := Nm.a0c (l := y) (k := 7) (by omega)
  have e1 : Nm.val x % 18446744073709551616 = Nm.val x := Nat.mod_eq_of_lt (by omega)
  have e2 : Nm.val y % 18446744073709551616 = Nm.val y := Nat.mod_eq_of_lt (by omega)
  have fx := a1H x (by omega)
  have fy := a1H y (by omega)
  rw [e1] at fx
  rw [e2] at fy
  have hf := a0p (Nm.val x + Nm.val y) (by omega)
  rw [<- hva, <- hvb]
  (repeat first | refine uA ?_ | (refine uK ?_ ?_; focus first | omega | trivial | (intros; simp_all <;> omega)) | simp (disch := omega) only [go_sem, Nat.reduceBEq, Nat.reduceAdd, Nat.reduceLeDiff, Int.reduceToNat, Int.reducePow, ww] | (refine uB fx ?_ ?_; exact rfl) | (refine uB fy ?_ ?_; exact rfl) | (refine uB hf ?_ ?_; exact rfl))
  exact S.done (d9.out rfl (Imp.refl rfl) rfl)
 ·have hwx := (a1K x (by omega)).spec
  have hwy := (a1K y (by omega)).spec
  rw [<- hva, <- hvb, <- hwa, <- hwb]
  generalize Nm.H9 x = p at *
  generalize Nm.H9 y = q at *
  (repeat first | refine uA ?_ | (refine uK ?_ ?_; focus first | omega | trivial | (intros; simp_all <;> omega)) | simp (disch := omega) only [go_sem, Nat.reduceBEq, Nat.reduceAdd, Nat.reduceLeDiff, Int.reduceToNat, Int.reducePow, ww, q9] | (refine uB hwx ?_ ?_; exact rfl) | (refine uB hwy ?_ ?_; exact rfl))
  have hpl : p.length <= 137438953472 := by omega
  have hql : q.length <= 137438953472 := by omega
  have key : ∀ (x y out : List Nat) (i c : Nat), Nm.a2R x y i out c -> i < x.length -> (∀ w ∈ x, w < 4294967296) -> (∀ w ∈ y, w < 4294967296) -> ∀ s, s = c + x.getD i 0 + y.getD i 0 -> Nm.a2R x y (i + 1) (out.set i (s % 4294967296)) (s / 4294967296) := fun x y out i c h hi hx hy s hs => by
   rw [Nm.getD_lt hi] at hs
   refine Nm.b2o h hi (hx _ (c1N hi)) ?_ hs
   rcases c1V i y.length with h1 | h1
   ·rw [Nm.getD_lt h1]; exact hy _ (c1N h1)
   ·rw [c1O, c2k h1]; decide
  refine S.cond rfl (fun hc => ?_) (fun hc => ?_)
  all_goals simp only [c1D, c1E] at hc
  all_goals clear hwx hwy fta ftb
  ·rw [Nat.add_comm]
   generalize hP : q = P at *
   generalize hQ : p = Q at *
   have hle : Q.length <= P.length := by omega
   have hPl : P.length <= 137438953472 := by omega
   have hP3 : ∀ w ∈ P, w < 4294967296 := h3b
   have hQ3 : ∀ w ∈ Q, w < 4294967296 := h3a
   clear hP hQ hwa hwb hc
   (repeat first | refine uA ?_ | (refine uK ?_ ?_; focus first | omega | trivial | (intros; simp_all <;> omega)) | simp (disch := omega) only [go_sem, Nat.reduceBEq, Nat.reduceAdd, Nat.reduceLeDiff, Int.reduceToNat, Int.reducePow, ww, q9])
   have hn1 : ((P.length : Int) + 1).toNat = P.length + 1 := by omega
   refine S.loop (X := Nat × List Nat × Nat) (fun x => ⟨[(5, .sl 1 (ws P)), (6, .sl 1 (ws Q)), (7, .rv 0), (8, .v (.int .u64 (x.2.2 : Int))), (44, .sl 1 (ws P)), (45, ints P.length), (46, ints x.1)], [.row 240 1 (ws x.2.1)]⟩) (fun x => x.1 <= P.length /\ Nm.a2R P Q x.1 x.2.1 x.2.2) (fun x => P.length - x.1) (0, List.replicate (P.length + 1) 0, 0) ⟨c1H _, Nm.a6X P Q⟩ (by simp only [<- a2j]; rw [hn1]; exact (by (repeat first | refine uA ?_ | (refine ⟨?_, ?_⟩; focus first | rfl | trivial | (simp [slot]; done)) | rfl | trivial | simp))) ?_
   rintro ⟨i, out, c⟩ ⟨hi, hinv⟩
   simp only [ints] at hi hinv ⊢
   have hol := hinv.1
   have hc1 := hinv.2.2.1
   (repeat first | refine uA ?_ | (refine uK ?_ ?_; focus first | omega | trivial | (intros; simp_all <;> omega)) | simp (disch := omega) only [go_sem, Nat.reduceBEq, Nat.reduceAdd, Nat.reduceLeDiff, Int.reduceToNat, Int.reducePow, ww])
   (refine uJ rfl (fun hc => ?_) fun hc => ?_)
   ·have hi' : i < P.length := by omega
    have hgp : P[i]? = some P[i] := c1x hi'
    have hp32 := hP3 _ (c1N hi')
    have hk := key P Q out i c hinv hi' hP3 hQ3
    rw [Nm.getD_lt hi'] at hk
    have hgo : out[i]? = some out[i] := c1x (by omega)
    generalize P[i] = pi at *
    (repeat first | refine uA ?_ | (refine uK ?_ ?_; focus first | omega | trivial | (intros; simp_all <;> omega)) | simp (disch := omega) only [go_sem, Nat.reduceBEq, Nat.reduceAdd, Nat.reduceLeDiff, Int.reduceToNat, Int.reducePow, ww, q9, D5, hgp, c1z, wd])
    (refine uJ rfl (fun hc => ?_) fun hc => ?_)
    ·have hi2 : i < Q.length := by omega
     have hgq : Q[i]? = some Q[i] := c1x hi2
     have hq32 := hQ3 _ (c1N hi2)
     rw [Nm.getD_lt hi2] at hk
     generalize Q[i] = qi at *
     obtain ⟨s, hs⟩ : ∃ s : Nat, s = c + pi + qi := ⟨_, rfl⟩
     have hs' : (c : Int) + (pi : Int) + (qi : Int) = (s : Int) := by omega
     have hk := hk s hs
     (repeat first | refine uA ?_ | (refine uK ?_ ?_; focus first | omega | trivial | (intros; simp_all <;> omega)) | simp (disch := omega) only [go_sem, Nat.reduceBEq, Nat.reduceAdd, Nat.reduceLeDiff, Int.reduceToNat, Int.reducePow, ww, q9, D5, hgq, hgo, c1z, wd, hs', a1i, Z6, G7])
     refine S.next (x := (i, out, c)) (i + 1, _, _) ⟨hi', hk⟩ (by simp only; omega) (by (repeat first | refine uA ?_ | (refine ⟨?_, ?_⟩; focus first | rfl | trivial | (simp [slot]; done)) | rfl | trivial | simp))
    ·have hq0 : Q.getD i 0 = 0 := by rw [c1O, c2k (by omega)]; rfl
     rw [hq0, Nat.add_zero] at hk
     obtain ⟨s, hs⟩ : ∃ s : Nat, s = c + pi := ⟨_, rfl⟩
     have hs' : (c : Int) + (pi : Int) = (s : Int) := by omega
     have hk := hk s hs
     (repeat first | refine uA ?_ | (refine uK ?_ ?_; focus first | omega | trivial | (intros; simp_all <;> omega)) | simp (disch := omega) only [go_sem, Nat.reduceBEq, Nat.reduceAdd, Nat.reduceLeDiff, Int.reduceToNat, Int.reducePow, ww, q9, D5, hgo, c1z, wd, hs', a1i, Z6, G7])
     refine S.next (x := (i, out, c)) (i + 1, _, _) ⟨hi', hk⟩ (by simp only; omega) (by (repeat first | refine uA ?_ | (refine ⟨?_, ?_⟩; focus first | rfl | trivial | (simp [slot]; done)) | rfl | trivial | simp))
   ·have hi' : i = P.length := by omega
    subst hi'
    obtain ⟨he, h32⟩ := Nm.a7x hinv hle
    have hgo : out[P.length]? = some out[P.length] := c1x (by omega)
    rw [<- he]
    have ht := a3y (out.set P.length c) (by rw [c2g]; omega) h32
    (repeat first | refine uA ?_ | (refine uK ?_ ?_; focus first | omega | trivial | (intros; simp_all <;> omega)) | simp (disch := omega) only [go_sem, Nat.reduceBEq, Nat.reduceAdd, Nat.reduceLeDiff, Int.reduceToNat, Int.reducePow, ww, q9, D5, hgo, c1z, wd, G7] | (refine uC ht ?_ ?_ ?_; exact rfl; focus (repeat' first | exact j5.nil | exact Imp.refl rfl | exact Imp.frz rfl rfl rfl | (refine Imp.M5 rfl rfl ?_ ?_; (focus ((try simp only [c1C, q9, D5, hgo, c1z, wd, G7]); omega)); (focus first | rfl | assumption)) | refine j5.cons ?_ ?_); done))
    exact S.done (d9.out rfl (Imp.refl rfl) rfl)
  ·generalize hP : p = P at *
   generalize hQ : q = Q at *
   have hle : Q.length <= P.length := by omega
   have hPl : P.length <= 137438953472 := by omega
   have hP3 : ∀ w ∈ P, w < 4294967296 := h3a
   have hQ3 : ∀ w ∈ Q, w < 4294967296 := h3b
   clear hP hQ hwa hwb hc
   (repeat first | refine uA ?_ | (refine uK ?_ ?_; focus first | omega | trivial | (intros; simp_all <;> omega)) | simp (disch := omega) only [go_sem, Nat.reduceBEq, Nat.reduceAdd, Nat.reduceLeDiff, Int.reduceToNat, Int.reducePow, ww, q9])
   have hn1 : ((P.length : Int) + 1).toNat = P.length + 1 := by omega
   refine S.loop (X := Nat × List Nat × Nat) (fun x => ⟨[(5, .sl 1 (ws P)), (6, .sl 1 (ws Q)), (7, .rv 0), (8, .v (.int .u64 (x.2.2 : Int))), (44, .sl 1 (ws P)), (45, ints P.length), (46, ints x.1)], [.row 240 1 (ws x.2.1)]⟩) (fun x => x.1 <= P.length /\ Nm.a2R P Q x.1 x.2.1 x.2.2) (fun x => P.length - x.1) (0, List.replicate (P.length + 1) 0, 0) ⟨c1H _, Nm.a6X P Q⟩ (by simp only [<- a2j]; rw [hn1]; exact (by (repeat first | refine uA ?_ | (refine ⟨?_, ?_⟩; focus first | rfl | trivial | (simp [slot]; done)) | rfl | trivial | simp))) ?_
   rintro ⟨i, out, c⟩ ⟨hi, hinv⟩
   simp only [ints] at hi hinv ⊢
   have hol := hinv.1
   have hc1 := hinv.2.2.1
   (repeat first | refine uA ?_ | (refine uK ?_ ?_; focus first | omega | trivial | (intros; simp_all <;> omega)) | simp (disch := omega) only [go_sem, Nat.reduceBEq, Nat.reduceAdd, Nat.reduceLeDiff, Int.reduceToNat, Int.reducePow, ww])
   (refine uJ rfl (fun hc => ?_) fun hc => ?_)
   ·have hi' : i < P.length := by omega
    have hgp : P[i]? = some P[i] := c1x hi'
    have hp32 := hP3 _ (c1N hi')
    have hk := key P Q out i c hinv hi' hP3 hQ3
    rw [Nm.getD_lt hi'] at hk
    have hgo : out[i]? = some out[i] := c1x (by omega)
    generalize P[i] = pi at *
    (repeat first | refine uA ?_ | (refine uK ?_ ?_; focus first | omega | trivial | (intros; simp_all <;> omega)) | simp (disch := omega) only [go_sem, Nat.reduceBEq, Nat.reduceAdd, Nat.reduceLeDiff, Int.reduceToNat, Int.reducePow, ww, q9, D5, hgp, c1z, wd])
    (refine uJ rfl (fun hc => ?_) fun hc => ?_)
    ·have hi2 : i < Q.length := by omega
     have hgq : Q[i]? = some Q[i] := c1x hi2
     have hq32 := hQ3 _ (c1N hi2)
     rw [Nm.getD_lt hi2] at hk
     generalize Q[i] = qi at *
     obtain ⟨s, hs⟩ : ∃ s : Nat, s = c + pi + qi := ⟨_, rfl⟩
     have hs' : (c : Int) + (pi : Int) + (qi : Int) = (s : Int) := by omega
     have hk := hk s hs
     (repeat first | refine uA ?_ | (refine uK ?_ ?_; focus first | omega | trivial | (intros; simp_all <;> omega)) | simp (disch := omega) only [go_sem, Nat.reduceBEq, Nat.reduceAdd, Nat.reduceLeDiff, Int.reduceToNat, Int.reducePow, ww, q9, D5, hgq, hgo, c1z, wd, hs', a1i, Z6, G7])
     refine S.next (x := (i, out, c)) (i + 1, _, _) ⟨hi', hk⟩ (by simp only; omega) (by (repeat first | refine uA ?_ | (refine ⟨?_, ?_⟩; focus first | rfl | trivial | (simp [slot]; done)) | rfl | trivial | simp))
    ·have hq0 : Q.getD i 0 = 0 := by rw [c1O, c2k (by omega)]; rfl
     rw [hq0, Nat.add_zero] at hk
     obtain ⟨s, hs⟩ : ∃ s : Nat, s = c + pi := ⟨_, rfl⟩
     have hs' : (c : Int) + (pi : Int) = (s : Int) := by omega
     have hk := hk s hs
     (repeat first | refine uA ?_ | (refine uK ?_ ?_; focus first | omega | trivial | (intros; simp_all <;> omega)) | simp (disch := omega) only [go_sem, Nat.reduceBEq, Nat.reduceAdd, Nat.reduceLeDiff, Int.reduceToNat, Int.reducePow, ww, q9, D5, hgo, c1z, wd, hs', a1i, Z6, G7])
     refine S.next (x := (i, out, c)) (i + 1, _, _) ⟨hi', hk⟩ (by simp only; omega) (by (repeat first | refine uA ?_ | (refine ⟨?_, ?_⟩; focus first | rfl | trivial | (simp [slot]; done)) | rfl | trivial | simp))
   ·have hi' : i = P.length := by omega
    subst hi'
    obtain ⟨he, h32⟩ := Nm.a7x hinv hle
    have hgo : out[P.length]? = some out[P.length] := c1x (by omega)
    rw [<- he]
    have ht := a3y (out.set P.length c) (by rw [c2g]; omega) h32
    (repeat first | refine uA ?_ | (refine uK ?_ ?_; focus first | omega | trivial | (intros; simp_all <;> omega)) | simp (disch := omega) only [go_sem, Nat.reduceBEq, Nat.reduceAdd, Nat.reduceLeDiff, Int.reduceToNat, Int.reducePow, ww, q9, D5, hgo, c1z, wd, G7] | (refine uC ht ?_ ?_ ?_; exact rfl; focus (repeat' first | exact j5.nil | exact Imp.refl rfl | exact Imp.frz rfl rfl rfl | (refine Imp.M5 rfl rfl ?_ ?_; (focus ((try simp only [c1C, q9, D5, hgo, c1z, wd, G7]); omega)); (focus first | rfl | assumption)) | refine j5.cons ?_ ?_); done))
    exact S.done (d9.out rfl (Imp.refl rfl) rfl)
theorem a7j (p q c : Nat) (hp : p < 4294967296) (hq : q < 4294967296) (hc : c <= 1) : ∃ t c' : Nat, IntKind.u32.wrap (IntKind.u64.wrap (IntKind.u64.wrap ((p : Int) - (c : Int)) - (q : Int))) = (t : Int) /\ Int.fdiv (IntKind.u64.wrap (IntKind.u64.wrap ((p : Int) - (c : Int)) - (q : Int))) 9223372036854775808 = (c' : Int) /\ t < 4294967296 /\ c' <= 1 /\ t + c + q = p + 4294967296 * c' := by
 have h1 : ∀ n : Int, IntKind.u64.wrap n = n % 18446744073709551616 := fun n => by simp [IntKind.wrap, IntKind.signed, IntKind.bits]
 have h2 : ∀ n : Int, IntKind.u32.wrap n = n % 4294967296 := fun n => by simp [IntKind.wrap, IntKind.signed, IntKind.bits]
 rw [h1, h1, h2]
 by_cases h : c + q <= p
 ·refine ⟨p - c - q, 0, by omega, ?_, by omega, by omega, by omega⟩
  rw [show (((p : Int) - (c : Int)) % 18446744073709551616 - (q : Int)) % 18446744073709551616 = ((p - c - q : Nat) : Int) by omega]
  have := a1C (p - c - q) 9223372036854775808
  rw [show ((9223372036854775808 : Nat) : Int) = 9223372036854775808 from rfl] at this
  rw [this, Nat.div_eq_of_lt (by omega)]
 ·refine ⟨p + 4294967296 - c - q, 1, by omega, ?_, by omega, by omega, by omega⟩
  rw [show (((p : Int) - (c : Int)) % 18446744073709551616 - (q : Int)) % 18446744073709551616 = ((p + 18446744073709551616 - c - q : Nat) : Int) by omega]
  have := a1C (p + 18446744073709551616 - c - q) 9223372036854775808
  rw [show ((9223372036854775808 : Nat) : Int) = 9223372036854775808 from rfl] at this
  rw [this]
  congr 1
  omega
theorem b5u (p c : Nat) (hp : p < 4294967296) (hc : c <= 1) : ∃ t c' : Nat, IntKind.u32.wrap (IntKind.u64.wrap ((p : Int) - (c : Int))) = (t : Int) /\ Int.fdiv (IntKind.u64.wrap ((p : Int) - (c : Int))) 9223372036854775808 = (c' : Int) /\ t < 4294967296 /\ c' <= 1 /\ t + c + 0 = p + 4294967296 * c' := by
 obtain ⟨t, c', h1, h2, h3⟩ := a7j p 0 c hp (by omega) hc
 have e : IntKind.u64.wrap (IntKind.u64.wrap ((p : Int) - (c : Int)) - ((0 : Nat) : Int)) = IntKind.u64.wrap ((p : Int) - (c : Int)) := by
  have h1 : ∀ n : Int, IntKind.u64.wrap n = n % 18446744073709551616 := fun n => by simp [IntKind.wrap, IntKind.signed, IntKind.bits]
  rw [h1, h1]; omega
 rw [e] at h1 h2
 exact ⟨t, c', h1, h2, h3⟩
theorem c0o {E : Ctx} (hP : E.P = Tryz.prog) (xs ys : List Nat) (hl : xs.length <= 274877906944) (hyl : ys.length <= xs.length) (hx : Nm.F6 xs) (hy : Nm.F6 ys) (hle : Nm.wv 4294967296 ys <= Nm.wv 4294967296 xs) :
  l8 E [.row 240 1 (ws xs)] 226 [.rv 0, .sl 1 (ws ys)] (.tup []) [.row 240 1 (ws (Nm.dig 4294967296 xs.length (Nm.wv 4294967296 xs - Nm.wv 4294967296 ys)))] [] := by
 obtain ⟨P, eff', N, w0, own0, av0, nu0, pk0⟩ := E
 simp only at hP
 subst hP
 refine l8.of (eff := eff) Tryz.func226 (by cbv) (by exact c1Q rfl) fun w own av ν hν => ?_
 simp only [j6]
 have hν0 : ν.length <= 1 := by rw [hν]; exact c1I _
 (repeat first | refine uA ?_ | (refine uK ?_ ?_; focus first | omega | trivial | (intros; simp_all <;> omega)) | simp (disch := omega) only [go_sem, Nat.reduceBEq, Nat.reduceAdd, Nat.reduceLeDiff, Int.reduceToNat, Int.reducePow, ww, q9])
 refine S.loop (X := Nat × List Nat × Nat) (fun x => ⟨[(0, .rv 0), (1, .sl 1 (ws ys)), (4, .v (.int .u64 (x.2.2 : Int))), (8, .rv 0), (9, ints xs.length), (10, ints x.1)], [.row 240 1 (ws x.2.1)]⟩) (fun x => x.1 <= xs.length /\ Nm.a6k xs ys x.1 x.2.1 x.2.2) (fun x => xs.length - x.1) (0, xs, 0) ⟨c1H _, Nm.b2i ys hx⟩ (Ent.mk _ _ (by (repeat first | refine uA ?_ | (refine ⟨?_, ?_⟩; focus first | rfl | trivial | (simp [slot]; done)) | rfl | trivial | simp)) (by (repeat first | refine uA ?_ | (refine ⟨?_, ?_⟩; focus first | rfl | trivial | (simp [slot]; done)) | rfl | trivial | simp)) hν0) ?_
 rintro ⟨i, out, c⟩ ⟨hi, hinv⟩
 simp only [ints] at hi hinv ⊢
 have hol := hinv.1
 have hc1 := hinv.2.2.1
 (repeat first | refine uA ?_ | (refine uK ?_ ?_; focus first | omega | trivial | (intros; simp_all <;> omega)) | simp (disch := omega) only [go_sem, Nat.reduceBEq, Nat.reduceAdd, Nat.reduceLeDiff, Int.reduceToNat, Int.reducePow, ww])
 (refine uJ rfl (fun hc => ?_) fun hc => ?_)
 ·have hi' : i < xs.length := by omega
  have hgp : xs[i]? = some xs[i] := c1x hi'
  have hgo : out[i]? = some xs[i] := by rw [Nm.a0l hinv.2.2.2.1, hgp]
  have hp32 := hx _ (c1N hi')
  have hk := fun t c' h1 h2 h3 => Nm.b2k (t := t) (c' := c') hinv hi' h1 h2 h3
  generalize xs[i] = pi at *
  (repeat first | refine uA ?_ | (refine uK ?_ ?_; focus first | omega | trivial | (intros; simp_all <;> omega)) | simp (disch := omega) only [go_sem, Nat.reduceBEq, Nat.reduceAdd, Nat.reduceLeDiff, Int.reduceToNat, Int.reducePow, ww, q9, D5, hgo, c1z, wd])
  (refine uJ rfl (fun hc => ?_) fun hc => ?_)
  ·have hi2 : i < ys.length := by omega
   have hgq : ys[i]? = some ys[i] := c1x hi2
   have hq32 := hy _ (c1N hi2)
   rw [Nm.getD_lt hi2] at hk
   generalize ys[i] = qi at *
   obtain ⟨t, c', e1, e2, h1, h2, h3⟩ := a7j pi qi c hp32 hq32 hc1
   have hk := hk t c' h1 h2 h3
   (repeat first | refine uA ?_ | (refine uK ?_ ?_; focus first | omega | trivial | (intros; simp_all <;> omega)) | simp (disch := omega) only [go_sem, Nat.reduceBEq, Nat.reduceAdd, Nat.reduceLeDiff, Int.reduceToNat, Int.reducePow, ww, q9, D5, hgq, hgo, c1z, wd, e1, e2, G7])
   refine S.next (x := (i, out, c)) (i + 1, _, _) ⟨hi', hk⟩ (by simp only; omega) (Ent.mk _ _ (by (repeat first | refine uA ?_ | (refine ⟨?_, ?_⟩; focus first | rfl | trivial | (simp [slot]; done)) | rfl | trivial | simp)) (by (repeat first | refine uA ?_ | (refine ⟨?_, ?_⟩; focus first | rfl | trivial | (simp [slot]; done)) | rfl | trivial | simp)) hν0)
  ·have hq0 : ys.getD i 0 = 0 := by rw [c1O, c2k (by omega)]; rfl
   rw [hq0] at hk
   obtain ⟨t, c', e1, e2, h1, h2, h3⟩ := b5u pi c hp32 hc1
   have hk := hk t c' h1 h2 h3
   (repeat first | refine uA ?_ | (refine uK ?_ ?_; focus first | omega | trivial | (intros; simp_all <;> omega)) | simp (disch := omega) only [go_sem, Nat.reduceBEq, Nat.reduceAdd, Nat.reduceLeDiff, Int.reduceToNat, Int.reducePow, ww, q9, D5, hgo, c1z, wd, e1, e2, G7])
   refine S.next (x := (i, out, c)) (i + 1, _, _) ⟨hi', hk⟩ (by simp only; omega) (Ent.mk _ _ (by (repeat first | refine uA ?_ | (refine ⟨?_, ?_⟩; focus first | rfl | trivial | (simp [slot]; done)) | rfl | trivial | simp)) (by (repeat first | refine uA ?_ | (refine ⟨?_, ?_⟩; focus first | rfl | trivial | (simp [slot]; done)) | rfl | trivial | simp)) hν0)
 ·have hi' : i = xs.length := by omega
  subst hi'
  obtain ⟨he1, he2⟩ := Nm.b3E hinv hyl hle
  have hd : out = Nm.dig 4294967296 xs.length (Nm.wv 4294967296 xs - Nm.wv 4294967296 ys) := Nm.U8 (by decide) hinv.2.1 hol (by omega)
  rw [<- hd]
  (repeat first | refine uA ?_ | (refine uK ?_ ?_; focus first | omega | trivial | (intros; simp_all <;> omega)) | simp (disch := omega) only [go_sem, Nat.reduceBEq, Nat.reduceAdd, Nat.reduceLeDiff, Int.reduceToNat, Int.reducePow, ww])
  exact S.end_ (d9.own rfl)
end Go.Proofs.YtogfpjohjphngaaGreatDoor
namespace Go.Proofs
open Go.Shelf
def Tryz.b1S : Go.Shelf.Ren := ⟨fun | 133 => 244 | 128 => 258 | n => n, fun | 51 => 240 | 3 => 3 | 4 => 4 | 46 => 192 | 5 => 5 | 9 => 9 | n => n, fun | n => n⟩
theorem Tryz.b8S : Go.Proofs.Lays.n133 Tryz.prog Tryz.b1S := {
 mixed := by kernel_rfl
 f128 := Tryz.func258.trans (congrArg some (by kernel_rfl))
 f133 := Tryz.func244.trans (congrArg some (by kernel_rfl))
 t3 := Tryz.underlying3
 a3 := Tryz.isAgg3
 z3 := Tryz.sizeOf3
 v3 := Tryz.zeroValue3
 t4 := Tryz.underlying4
 a4 := Tryz.isAgg4
 z4 := Tryz.sizeOf4
 v4 := Tryz.zeroValue4
 t5 := Tryz.underlying5
 a5 := Tryz.isAgg5
 z5 := Tryz.sizeOf5
 v5 := Tryz.zeroValue5
 t9 := Tryz.underlying9
 a9 := Tryz.isAgg9
 z9 := Tryz.sizeOf9
 v9 := Tryz.zeroValue9
 t46 := Tryz.underlying192
 a46 := Tryz.isAgg192
 z46 := Tryz.sizeOf192
 v46 := Tryz.zeroValue192
 t51 := Tryz.underlying240
 a51 := Tryz.isAgg240
 z51 := Tryz.sizeOf240
 v51 := Tryz.zeroValue240 }
theorem Tryz.bits_LeadingZeros32 (x : Int) (w : World) (h0 : 0 <= x) (h1 : x <= 4294967295) :
  Calls Tryz.prog 244 #[.int .u32 x] w fun e w' => e = .returned (.int .i64 (32 - (Lib.bitLen x.toNat : Int))) /\ w' = w := Any.bits_LeadingZeros32 Tryz.b8S x w h0 h1
def Tryz.b1P : Go.Shelf.Ren := ⟨fun | 106 => 214 | 213 => 233 | 265 => 252 | n => n, fun | 9 => 9 | 3 => 3 | n => n, fun | n => n⟩
theorem Tryz.b7Z : Go.Proofs.Lays.n106 Tryz.prog Tryz.b1P := {
 mixed := by kernel_rfl
 f106 := Tryz.func214.trans (congrArg some (by kernel_rfl))
 f213 := Tryz.func233.trans (congrArg some (by kernel_rfl))
 f265 := Tryz.func252.trans (congrArg some (by kernel_rfl))
 t3 := Tryz.underlying3
 a3 := Tryz.isAgg3
 z3 := Tryz.sizeOf3
 v3 := Tryz.zeroValue3
 t9 := Tryz.underlying9
 a9 := Tryz.isAgg9
 z9 := Tryz.sizeOf9
 v9 := Tryz.zeroValue9 }
open Go.RowKit in
theorem Tryz.strings_Compare (a b : ByteArray) (w : World) :
  Calls Tryz.prog 214 #[.string a, .string b] w fun e w' => e = .returned (.int .i64 (Lib.compareBytes a.data.toList b.data.toList)) /\ w' = w := Any.strings_Compare Tryz.b7Z a b w
end Go.Proofs
namespace Go.Proofs.YtogfpjohjphngaaGreatDoor
open Go Go.RowKit Eng
set_option maxRecDepth 10000
set_option maxHeartbeats 1000000
theorem a6T : ∀ {a b : List UInt8}, a.length = b.length -> Lib.compareBytes a b = Nm.a0n (Nm.val a) (Nm.val b)
 | [], [], _ => rfl
 | [], _ :: _, h => by cases h
 | _ :: _, [], h => by cases h
 | x :: a, y :: b, h => by
  simp only [c1T, Nat.add_right_cancel_iff] at h
  have ih := a6T h
  have ha := Nm.Y4 a
  have hb := Nm.Y4 b
  rw [h] at ha
  simp only [Lib.compareBytes, ih, Nm.a0n, Nm.X9, h, UInt8.lt_iff_toNat_lt]
  rcases Nat.lt_trichotomy x.toNat y.toNat with hl | hl | hl
  ·have := c2h (256 ^ b.length) hl
   rw [Nat.succ_mul] at this
   rw [if_pos hl, if_pos (by omega)]
  ·rw [if_neg (by omega), if_neg (by omega), hl]
   repeat' split
   all_goals omega
  ·have := c2h (256 ^ b.length) hl
   rw [Nat.succ_mul] at this
   rw [if_neg (by omega), if_pos hl, if_neg (by omega), if_neg (by omega)]
theorem b5a (a b : List UInt8) : u6 Tryz.prog 214 [sb a, sb b] (ints (Lib.compareBytes a b)) := by
 intro O w vs hO hA
 simp only [FzL, sb, Fz] at hA
 obtain ⟨y, ys, rfl, rfl, z, zs, rfl, rfl, rfl⟩ := hA
 refine (Tryz.strings_Compare (bs a) (bs b) w).mono ?_
 rintro e w' ⟨rfl, rfl⟩
 exact ⟨_, rfl, Below.refl _ _, by simp only [ints, Fz, O8]⟩
theorem a8e (a b : List UInt8) (ha : a.length <= 1099511627776) (hb : b.length <= 1099511627776) : u6 Tryz.prog 156 [sb a, sb b] (ints (Nm.a0n (Nm.val a) (Nm.val b))) := by
 refine kS Tryz.func156 (by cbv) (by rfl) fun w O => ?_
 simp only [j6, sb, ints]
 have fta := a0B a ha
 have ftb := a0B b hb
 have hca := Nm.U2 a
 have hcb := Nm.U2 b
 rw [<- Nm.O3 a, <- Nm.O3 b]
 generalize Nm.trim a = x at *
 generalize Nm.trim b = y at *
 (repeat first | refine uA ?_ | (refine uK ?_ ?_; focus first | omega | (intros; simp_all <;> omega)) | simp (disch := omega) only [go_sem, Nat.reduceBEq, Nat.reduceAdd, ww, w9] | (refine uB fta ?_ ?_; exact rfl) | (refine uB ftb ?_ ?_; exact rfl))
 (refine uJ rfl (fun hc => ?_) fun hc => ?_)
 ·have := Nm.a2e hcb (a := x) (by omega)
  have he : Nm.a0n (Nm.val x) (Nm.val y) = -1 := by unfold Nm.a0n; rw [if_pos this]
  rw [he]
  (repeat first | refine uA ?_ | (refine uK ?_ ?_; focus first | omega | (intros; simp_all <;> omega)) | simp (disch := omega) only [go_sem, Nat.reduceBEq, Nat.reduceAdd, ww])
  exact S.done (d9.out rfl (Imp.refl rfl) rfl)
 (repeat first | refine uA ?_ | (refine uK ?_ ?_; focus first | omega | (intros; simp_all <;> omega)) | simp (disch := omega) only [go_sem, Nat.reduceBEq, Nat.reduceAdd, ww, w9])
 (refine uJ rfl (fun hc => ?_) fun hc => ?_)
 ·have := Nm.a2e hca (a := y) (by omega)
  have he : Nm.a0n (Nm.val x) (Nm.val y) = 1 := by unfold Nm.a0n; rw [if_neg (by omega), if_neg (by omega)]
  rw [he]
  (repeat first | refine uA ?_ | (refine uK ?_ ?_; focus first | omega | (intros; simp_all <;> omega)) | simp (disch := omega) only [go_sem, Nat.reduceBEq, Nat.reduceAdd, ww])
  exact S.done (d9.out rfl (Imp.refl rfl) rfl)
 ·have hl : x.length = y.length := by omega
  have fc := b5a x y
  rw [a6T hl] at fc
  (repeat first | refine uA ?_ | (refine uK ?_ ?_; focus first | omega | (intros; simp_all <;> omega)) | simp (disch := omega) only [go_sem, Nat.reduceBEq, Nat.reduceAdd, ww] | (refine uB fc ?_ ?_; exact rfl))
  exact S.done (d9.out rfl (Imp.refl rfl) rfl)
def F3 (a b : Nat) : List UInt8 := if b <= a then Nm.enc (a - b) else []
def a3D (a b : Nat) : Int := if b <= a then 0 else 1
theorem b0r (a b : Nat) : Nm.a0n a b < 0 <-> a < b := by unfold Nm.a0n; repeat' split; all_goals omega
theorem b7T (a b : List UInt8) (ha : a.length <= 549755813888) (hb : b.length <= 549755813888) : u6 Tryz.prog 182 [sb a, sb b] (.tup [sb (F3 (Nm.val a) (Nm.val b)), ints (a3D (Nm.val a) (Nm.val b))]) := by
  refine kS Tryz.func182 (by cbv) (by rfl) fun w O => ?_
  simp only [j6, sb, ints]
  have hcn := b0r (Nm.val a) (Nm.val b)
  (repeat first | refine uA ?_ | (refine uK ?_ ?_; focus first | omega | (intros; simp_all <;> omega)) | simp (disch := omega) only [go_sem, Nat.reduceBEq, Nat.reduceAdd, ww] | (refine uB (a8e a b (by omega) (by omega)) ?_ ?_; exact rfl))
  (refine uJ rfl (fun hc => ?_) fun hc => ?_)
  · have h1 := hcn.1 hc
    have e1 : F3 (Nm.val a) (Nm.val b) = [] := by unfold F3; rw [if_neg (by omega)]
    have e2 : a3D (Nm.val a) (Nm.val b) = 1 := by unfold a3D; rw [if_neg (by omega)]
    rw [e1, e2]
    (repeat first | refine uA ?_ | (refine uK ?_ ?_; focus first | omega | (intros; simp_all <;> omega)) | simp (disch := omega) only [go_sem, Nat.reduceBEq, Nat.reduceAdd, ww])
    exact S.done (d9.out rfl (Imp.refl rfl) rfl)
  · have h1 : Nm.val b <= Nm.val a := by
      rcases c1V (Nm.val a) (Nm.val b) with h | h
      · exact absurd (hcn.2 h) hc
      · exact h
    have e1 : F3 (Nm.val a) (Nm.val b) = Nm.enc (Nm.val a - Nm.val b) := by unfold F3; rw [if_pos h1]
    have e2 : a3D (Nm.val a) (Nm.val b) = 0 := by unfold a3D; rw [if_pos h1]
    rw [e1, e2]
    have hta := Nm.V5 a
    have htb := Nm.V5 b
    have hla := Nm.R9 a
    have hlb := Nm.R9 b
    have hwa := Nm.a0g a
    have hwb := Nm.a0g b
    have h3a := Nm.a0e a
    have h3b := Nm.a0e b
    have fwa := a1K a (by omega)
    have fwb := (a1K b (by omega)).spec
    have hle : (Nm.H9 b).length <= (Nm.H9 a).length := by
      rcases c1V (Nm.H9 a).length (Nm.H9 b).length with h | h
      · exfalso
        have h2 := Nm.a6b b (fun e => by rw [e] at h; simp at h)
        have h3 := Nm.J5 4294967296 h3a
        have h4 : 4294967296 ^ (Nm.H9 a).length <= 4294967296 ^ ((Nm.H9 b).length - 1) := c2c (by decide) (by omega)
        omega
      · exact h
    have h1w : Nm.wv 4294967296 (Nm.H9 b) <= Nm.wv 4294967296 (Nm.H9 a) := by rw [hwa, hwb]; exact h1
    rw [<- hwa, <- hwb]
    clear hwa hwb h1 hc hcn e1 e2
    generalize Nm.H9 a = p at *
    generalize Nm.H9 b = q at *
    have hd1 : Nm.wv 4294967296 (Nm.dig 4294967296 p.length (Nm.wv 4294967296 p - Nm.wv 4294967296 q)) = Nm.wv 4294967296 p - Nm.wv 4294967296 q := by
      refine Nm.U3 ?_
      have := Nm.J5 4294967296 h3a
      omega
    have ft := a3y (Nm.dig 4294967296 p.length (Nm.wv 4294967296 p - Nm.wv 4294967296 q)) (by rw [Nm.H6]; omega) (Nm.a0P (by decide) _ _)
    rw [hd1] at ft
    (repeat first | refine uA ?_ | (refine uK ?_ ?_; focus first | omega | (intros; simp_all <;> omega)) | simp (disch := omega) only [go_sem, Nat.reduceBEq, Nat.reduceAdd, ww] | refine l9.t (FNew.t fwa rfl) ?_ | refine l9.t (c0o rfl p q (by omega) hle h3a h3b h1w) ?_ | (refine uB fwb ?_ ?_; exact rfl) | (refine uC ft ?_ ?_ ?_; exact rfl; focus (repeat' first | exact j5.nil | exact Imp.refl rfl | exact Imp.frz rfl rfl rfl | (refine Imp.M5 rfl rfl ?_ ?_; (focus ((try simp only [c1C]); omega)); (focus first | rfl | assumption)) | refine j5.cons ?_ ?_); done))
    exact S.done (d9.out rfl (Imp.refl rfl) rfl)
theorem a2A (a b : List UInt8) (ha : a.length <= 274877906944) (hb : b.length <= 274877906944) : u6 Tryz.prog 79 [sb a, sb b] (sb (Nm.enc (Nm.val a * Nm.val b))) := by
 refine kS Tryz.func79 (by cbv) (by rfl) fun w O => ?_
 simp only [j6, sb]
 have hta := Nm.V5 a
 have htb := Nm.V5 b
 have hva := Nm.O3 a
 have hvb := Nm.O3 b
 have hla := Nm.R9 (Nm.trim a)
 have hlb := Nm.R9 (Nm.trim b)
 have hwa := Nm.a0g (Nm.trim a)
 have hwb := Nm.a0g (Nm.trim b)
 have h3a := Nm.a0e (Nm.trim a)
 have h3b := Nm.a0e (Nm.trim b)
 have fta := a0B a (by omega)
 have ftb := a0B b (by omega)
 rw [Nm.a6c] at hla hlb
 rw [<- hva, <- hvb]
 clear hva hvb
 generalize Nm.trim a = x at *
 generalize Nm.trim b = y at *
 (repeat first | refine uA ?_ | (refine uK ?_ ?_; focus first | omega | trivial | (intros; simp_all <;> omega)) | simp (disch := omega) only [go_sem, Nat.reduceBEq, Nat.reduceAdd, Nat.reduceLeDiff, Int.reduceToNat, Int.reducePow, ww, w9] | (refine uB fta ?_ ?_; exact rfl) | (refine uB ftb ?_ ?_; exact rfl))
 (refine uJ rfl (fun hc => ?_) fun hc => ?_)
 ·have hx := Nm.Y4 x
  have hy := Nm.Y4 y
  have hp : Nm.val x * Nm.val y < 18446744073709551616 := by
   refine c1S (Nat.mul_lt_mul'' hx hy) ?_
   rw [<- Nat.pow_add, show 18446744073709551616 = 256 ^ 8 by decide]
   exact c2c (by decide) (by omega)
  have fx := a1H x (by omega)
  have fy := a1H y (by omega)
  have hx7 := Nm.a0c (l := x) (k := 8) (by omega)
  have hy7 := Nm.a0c (l := y) (k := 8) (by omega)
  have e1 : Nm.val x % 18446744073709551616 = Nm.val x := Nat.mod_eq_of_lt (by omega)
  have e2 : Nm.val y % 18446744073709551616 = Nm.val y := Nat.mod_eq_of_lt (by omega)
  rw [e1] at fx
  rw [e2] at fy
  have hf := a0p (Nm.val x * Nm.val y) hp
  have hm : IntKind.u64.wrap ((Nm.val x : Int) * (Nm.val y : Int)) = ((Nm.val x * Nm.val y : Nat) : Int) := by
   rw [Eng.wrap_u64]
   ·simp
   ·rw [<- Int.natCast_mul]; omega
  (repeat first | refine uA ?_ | (refine uK ?_ ?_; focus first | omega | trivial | (intros; simp_all <;> omega)) | simp (disch := omega) only [go_sem, Nat.reduceBEq, Nat.reduceAdd, Nat.reduceLeDiff, Int.reduceToNat, Int.reducePow, ww, hm] | (refine uB fx ?_ ?_; exact rfl) | (refine uB fy ?_ ?_; exact rfl) | (refine uB hf ?_ ?_; exact rfl))
  exact S.done (d9.out rfl (Imp.refl rfl) rfl)
 ·have hwx := (a1K x (by omega)).spec
  have hwy := (a1K y (by omega)).spec
  rw [<- hwa, <- hwb]
  clear hwa hwb fta ftb hc
  generalize Nm.H9 x = p at *
  generalize Nm.H9 y = q at *
  have hpl : p.length <= 68719476737 := by omega
  have hql : q.length <= 68719476737 := by omega
  (repeat first | refine uA ?_ | (refine uK ?_ ?_; focus first | omega | trivial | (intros; simp_all <;> omega)) | simp (disch := omega) only [go_sem, Nat.reduceBEq, Nat.reduceAdd, Nat.reduceLeDiff, Int.reduceToNat, Int.reducePow, ww, q9] | (refine uB hwx ?_ ?_; exact rfl) | (refine uB hwy ?_ ?_; exact rfl))
  have hn1 : ((p.length : Int) + (q.length : Int)).toNat = p.length + q.length := by omega
  clear hwx hwy
  refine S.loop (X := Nat × List Nat) (fun x => ⟨[(5, .sl 1 (ws p)), (6, .sl 1 (ws q)), (7, .rv 0), (39, .sl 1 (ws p)), (40, ints p.length), (41, ints x.1)], [.row 240 1 (ws x.2)]⟩) (fun x => x.1 <= p.length /\ Nm.a6j p q x.1 x.2) (fun x => p.length - x.1) (0, List.replicate (p.length + q.length) 0) ⟨c1H _, Nm.b1L p q⟩ (by simp only [<- a2j]; rw [hn1]; exact (by (repeat first | refine uA ?_ | (refine ⟨?_, ?_⟩; focus first | rfl | trivial | (simp [slot]; done)) | rfl | trivial | simp))) ?_
  rintro ⟨i, out0⟩ ⟨hi, hinv⟩
  simp only [ints] at hi hinv ⊢
  have hol := hinv.1
  (repeat first | refine uA ?_ | (refine uK ?_ ?_; focus first | omega | trivial | (intros; simp_all <;> omega)) | simp (disch := omega) only [go_sem, Nat.reduceBEq, Nat.reduceAdd, Nat.reduceLeDiff, Int.reduceToNat, Int.reducePow, ww])
  (refine uJ rfl (fun hc => ?_) fun hc => ?_)
  ·have hi' : i < p.length := by omega
   have hgp : p[i]? = some p[i] := c1x hi'
   have hp32 := h3a _ (c1N hi')
   (repeat first | refine uA ?_ | (refine uK ?_ ?_; focus first | omega | trivial | (intros; simp_all <;> omega)) | simp (disch := omega) only [go_sem, Nat.reduceBEq, Nat.reduceAdd, Nat.reduceLeDiff, Int.reduceToNat, Int.reducePow, ww, q9, D5, hgp, c1z, wd])
   refine S.loop (X := Nat × List Nat × Nat) (fun x => ⟨[(5, .sl 1 (ws p)), (6, .sl 1 (ws q)), (7, .rv 0), (39, .sl 1 (ws p)), (40, ints p.length), (41, ints i), (8, ints i), (9, .v (.int .u32 (p[i] : Int))), (10, .v (.int .u64 (x.2.2 : Int))), (46, .sl 1 (ws q)), (47, ints q.length), (48, ints x.1)], [.row 240 1 (ws x.2.1)]⟩) (fun x => x.1 <= q.length /\ Nm.a8l p q i x.1 x.2.1 x.2.2) (fun x => q.length - x.1) (0, out0, 0) ⟨c1H _, Nm.b3D hinv⟩ (by (repeat first | refine uA ?_ | (refine ⟨?_, ?_⟩; focus first | rfl | trivial | (simp [slot]; done)) | rfl | trivial | simp)) ?_
   clear hinv hol
   rintro ⟨k, out, c⟩ ⟨hk, hinv⟩
   simp only [ints] at hk hinv ⊢
   have hol := hinv.1
   have hc1 := hinv.2.2.1
   (repeat first | refine uA ?_ | (refine uK ?_ ?_; focus first | omega | trivial | (intros; simp_all <;> omega)) | simp (disch := omega) only [go_sem, Nat.reduceBEq, Nat.reduceAdd, Nat.reduceLeDiff, Int.reduceToNat, Int.reducePow, ww])
   (refine uJ rfl (fun hc => ?_) fun hc => ?_)
   ·have hk' : k < q.length := by omega
    have hgq : q[k]? = some q[k] := c1x hk'
    have hq32 := h3b _ (c1N hk')
    have hgo : out[i + k]? = some (out[i + k]'(by omega)) := c1x (by omega)
    have ho32 := hinv.2.1 _ (c1N (show i + k < out.length by omega))
    obtain ⟨hs, hsb⟩ := Nm.b3F hinv hi' hk' hp32 hq32 (by omega) rfl
    generalize hP : p[i] = pi at *
    generalize q[k] = qk at *
    generalize hO : out[i + k]'(by omega) = o at *
    obtain ⟨m, hm⟩ : ∃ m : Nat, m = pi * qk := ⟨_, rfl⟩
    have hm' : (pi : Int) * (qk : Int) = (m : Int) := by rw [hm]; simp
    rw [<- hm] at hs hsb
    have hs' : (c : Int) + ((m : Int) + (o : Int)) = ((c + m + o : Nat) : Int) := by omega
    have hik : ((i : Int) + (k : Int)).toNat = i + k := by omega
    (repeat first | refine uA ?_ | (refine uK ?_ ?_; focus first | omega | trivial | (intros; simp_all <;> omega)) | simp (disch := omega) only [go_sem, Nat.reduceBEq, Nat.reduceAdd, Nat.reduceLeDiff, Int.reduceToNat, Int.reducePow, ww, q9, D5, hgq, hgo, c1z, wd, hm', hs', hik, a1i, Z6, G7])
    refine S.next (x := (k, out, c)) (k + 1, _, _) ⟨hk', hs⟩ (by simp only; omega) (by (repeat first | refine uA ?_ | (refine ⟨?_, ?_⟩; focus first | rfl | trivial | (simp [slot]; done)) | rfl | trivial | simp))
   ·have hk' : k = q.length := by omega
    subst hk'
    have he := Nm.b5B hinv hi'
    have hik : ((i : Int) + (q.length : Int)).toNat = i + q.length := by omega
    have hgo : out[i + q.length]? = some (out[i + q.length]'(by omega)) := c1x (by omega)
    (repeat first | refine uA ?_ | (refine uK ?_ ?_; focus first | omega | trivial | (intros; simp_all <;> omega)) | simp (disch := omega) only [go_sem, Nat.reduceBEq, Nat.reduceAdd, Nat.reduceLeDiff, Int.reduceToNat, Int.reducePow, ww, q9, D5, hgo, c1z, wd, hik, G7])
    refine S.next (x := (i, out0)) (i + 1, _) ⟨hi', he⟩ (by simp only; omega) (by (repeat first | refine uA ?_ | (refine ⟨?_, ?_⟩; focus first | rfl | trivial | (simp [slot]; done)) | rfl | trivial | simp))
  ·have hi' : i = p.length := by omega
   subst hi'
   have he := Nm.b3U hinv
   rw [<- he]
   have ht := a3y out0 (by omega) hinv.2.1
   (repeat first | refine uA ?_ | (refine uK ?_ ?_; focus first | omega | trivial | (intros; simp_all <;> omega)) | simp (disch := omega) only [go_sem, Nat.reduceBEq, Nat.reduceAdd, Nat.reduceLeDiff, Int.reduceToNat, Int.reducePow, ww] | (refine uC ht ?_ ?_ ?_; exact rfl; focus (repeat' first | exact j5.nil | exact Imp.refl rfl | exact Imp.frz rfl rfl rfl | (refine Imp.M5 rfl rfl ?_ ?_; (focus ((try simp only [c1C]); omega)); (focus first | rfl | assumption)) | refine j5.cons ?_ ?_); done))
   exact S.done (d9.out rfl (Imp.refl rfl) rfl)
theorem b2X (x r : Nat) (h : x * 2 ^ r < 18446744073709551616) (hr : r < 64) : IntKind.u64.wrap ((x : Int) * 2 ^ min r 64) = ((x * 2 ^ r : Nat) : Int) := by
 rw [show min r 64 = r by omega, Eng.wrap_u64]
 ·simp
 ·have e : (x : Int) * 2 ^ r = ((x * 2 ^ r : Nat) : Int) := by simp
  rw [e]; omega
theorem b5N (o n : Nat) (ho : o < 4294967296) : bits .or .u32 (o : Int) (((n % 4294967296 : Nat)) : Int) = ((o ||| n % 4294967296 : Nat) : Int) := b4u _ _ ho (Nat.mod_lt _ (by decide))
theorem b5m (x : List Nat) (r : Nat) (hl : x.length <= 274877906940) (hx : Nm.F6 x) (hr : r < 32) : FNew Tryz.prog 245 [.sl 1 (ws x), ints r] 240 1 (ws (Nm.dig 4294967296 (x.length + 1) (Nm.wv 4294967296 x * 2 ^ r))) := by
 refine FNew.of (eff := eff) Tryz.func245 (by cbv) (by exact c1Q rfl) fun w O => ?_
 simp only [j6, ints]
 (repeat first | refine uA ?_ | (refine uK ?_ ?_; focus first | omega | trivial | (intro h; rw [h]; rfl) | (intro h h2; rw [h, h2]; rfl) | (intro h; (try simp at h); omega) | (intros; simp_all <;> omega)) | simp only [go_sem, Nat.reduceBEq, Nat.reduceAdd, Nat.reduceLeDiff, Int.reduceToNat, Int.reducePow, q9] | simp (disch := omega) only [ww, q9])
 have hn1 : ((x.length : Int) + 1).toNat = x.length + 1 := by omega
 refine S.loop (X := Nat × List Nat) (fun s => ⟨[(0, .sl 1 (ws x)), (1, ints r), (5, .rv 0), (13, .sl 1 (ws x)), (14, ints x.length), (15, ints s.1)], [.row 240 1 (ws s.2)]⟩) (fun s => s.1 <= x.length /\ Nm.leftInv x (2 ^ r) s.1 s.2) (fun s => x.length - s.1) (0, List.replicate (x.length + 1) 0) ⟨c1H _, Nm.b0w x (Nat.pow_pos (by decide))⟩ (by simp only [<- a2j]; rw [hn1]; exact (by (repeat first | refine uA ?_ | (refine ⟨?_, ?_⟩; focus first | rfl | trivial | (simp [slot]; done)) | rfl | trivial | simp))) ?_
 rintro ⟨i, out⟩ ⟨hi, hinv⟩
 simp only [ints] at hi hinv ⊢
 have hol := hinv.1
 (repeat first | refine uA ?_ | (refine uK ?_ ?_; focus first | omega | trivial | (intro h; rw [h]; rfl) | (intro h h2; rw [h, h2]; rfl) | (intro h; (try simp at h); omega) | (intros; simp_all <;> omega)) | simp only [go_sem, Nat.reduceBEq, Nat.reduceAdd, Nat.reduceLeDiff, Int.reduceToNat, Int.reducePow] | simp (disch := omega) only [ww])
 (refine uJ rfl (fun hc => ?_) fun hc => ?_)
 ·have hi' : i < x.length := by omega
  have hgp : x[i]? = some x[i] := c1x hi'
  have hgo : out[i]? = some (out[i]'(by omega)) := c1x (by omega)
  have hg1 : out[i + 1]? = some (out[i + 1]'(by omega)) := c1x (by omega)
  have ho32 := hinv.2.1 _ (c1N (show i < out.length by omega))
  obtain ⟨hs, hm, h1, h2⟩ := Nm.b1C hinv hr hi' (hx _ (c1N hi')) (by omega)
  have hx32 := hx _ (c1N hi')
  generalize x[i] = xi at *
  generalize out[i]'(by omega) = o at *
  generalize out[i + 1]'(by omega) = o1 at *
  have hv := b2X xi r hm (by omega)
  generalize xi * 2 ^ r = n at *
  have hol2 := b5N o n ho32
  have hgs : (out.set i (o ||| n % 4294967296))[i + 1]? = some o1 := by rw [List.getElem?_set_ne (by omega)]; exact hg1
  have hi1 : ((i : Int) + 1).toNat = i + 1 := by omega
  (repeat first | refine uA ?_ | (refine uK ?_ ?_; focus first | omega | trivial | (intro h; rw [h]; rfl) | (intro h h2; rw [h, h2]; rfl) | (intro h; (try simp at h); omega) | (intros; simp_all <;> omega)) | simp only [go_sem, Nat.reduceBEq, Nat.reduceAdd, Nat.reduceLeDiff, Int.reduceToNat, Int.reducePow, q9, D5, hgp, hgo, hgs, hi1, c1z, wd, hv, a1i, Z6, hol2, G7, c2g] | simp (disch := omega) only [ww, q9, D5, hgp, hgo, hgs, hi1, c1z, wd, hv, a1i, Z6, hol2, G7, c2g])
  refine S.next (x := (i, out)) (i + 1, _) ⟨hi', hs⟩ (by simp only; omega) (by (repeat first | refine uA ?_ | (refine ⟨?_, ?_⟩; focus first | rfl | trivial | (simp [slot]; done)) | rfl | trivial | simp))
 ·have hi' : i = x.length := by omega
  subst hi'
  have he := (Nm.b2p hinv).1
  have hd : out = Nm.dig 4294967296 (x.length + 1) (Nm.wv 4294967296 x * 2 ^ r) := Nm.U8 (by decide) hinv.2.1 hol he
  rw [<- hd]
  (repeat first | refine uA ?_ | (refine uK ?_ ?_; focus first | omega | trivial | (intro h; rw [h]; rfl) | (intro h h2; rw [h, h2]; rfl) | (intro h; (try simp at h); omega) | (intros; simp_all <;> omega)) | simp only [go_sem, Nat.reduceBEq, Nat.reduceAdd, Nat.reduceLeDiff, Int.reduceToNat, Int.reducePow] | simp (disch := omega) only [ww])
  exact S.done (d9.new rfl rfl rfl)
def put (us : List Nat) (k : Nat) (out : List Nat) : List Nat := us.take k ++ out ++ us.drop (k + out.length)
theorem Y8 {us out : List Nat} {k : Nat} (h : k + out.length <= us.length) : (put us k out).length = us.length := by
 simp only [put, c1C, c1M, c2l]; omega
theorem Q8 {us out : List Nat} {k i : Nat} (h : k + out.length <= us.length) (hi : i < out.length) : (put us k out)[k + i]? = out[i]? := by
 have ht : (us.take k).length = k := by rw [c1M]; omega
 rw [put, c2b, c1P (by omega), ht, Nat.add_sub_cancel_left, c1K hi]
theorem Y7 {us out : List Nat} {k i v : Nat} (h : k + out.length <= us.length) (hi : i < out.length) : (put us k out).set (k + i) v = put us k (out.set i v) := by
 have ht : (us.take k).length = k := by rw [c1M]; omega
 rw [put, put, c2b, List.set_append_right _ _ (by omega), ht, Nat.add_sub_cancel_left, List.set_append_left _ _ hi, c2g, c2b]
theorem a3U {us : List Nat} {k n : Nat} (h : k + n <= us.length) : put us k ((us.drop k).take n) = us := by
 rw [put, c1M, c2l, show min n (us.length - k) = n by omega, c2b, <- List.drop_drop]
 rw [List.take_append_drop, List.take_append_drop]
theorem b2x (o lo b : Nat) (ho : o < 4294967296) (hl : lo < 4294967296) (hb : b <= 1) : ∃ t c' : Nat, IntKind.u32.wrap (IntKind.u64.wrap (IntKind.u64.wrap ((o : Int) - (lo : Int)) - (b : Int))) = (t : Int) /\ Int.fdiv (IntKind.u64.wrap (IntKind.u64.wrap ((o : Int) - (lo : Int)) - (b : Int))) 9223372036854775808 = (c' : Int) /\ t < 4294967296 /\ c' <= 1 /\ t + lo + b = o + 4294967296 * c' := by
 obtain ⟨t, c', e1, e2, h1, h2, h3⟩ := a7j o lo b ho hl hb
 have g1 : ∀ n : Int, IntKind.u64.wrap n = n % 18446744073709551616 := fun n => by simp [IntKind.wrap, IntKind.signed, IntKind.bits]
 have e : IntKind.u64.wrap (IntKind.u64.wrap ((o : Int) - (lo : Int)) - (b : Int)) = IntKind.u64.wrap (IntKind.u64.wrap ((o : Int) - (b : Int)) - (lo : Int)) := by
  rw [g1, g1, g1, g1]; omega
 rw [e]
 exact ⟨t, c', e1, e2, h1, h2, by omega⟩
theorem c0f {E : Ctx} (hP : E.P = Tryz.prog) (us qs v : List Nat) (k d : Nat) (hl : us.length <= 274877906944) (hk : k + v.length + 1 <= us.length) (hu : Nm.F6 us) (hv : Nm.F6 v) (hd : d < 4294967296)
    {W : Nat} (hW : W = Nm.wv 4294967296 ((us.drop k).take (v.length + 1))) :
    l8 E [.row 240 1 (ws us), .row 240 1 (ws qs)] 246 [.wv 0 1 k (v.length + 1), .sl 1 (ws v), .v (.int .u64 (d : Int))] (.v (.bool (decide (W < d * Nm.wv 4294967296 v))))
      [.row 240 1 (ws (put us k (Nm.dig 4294967296 (v.length + 1) ((W + 4294967296 ^ (v.length + 1) * (if W < d * Nm.wv 4294967296 v then 1 else 0)) - d * Nm.wv 4294967296 v)))), .row 240 1 (ws qs)] [] := by
  obtain ⟨P, eff', N, w0, own0, av0, nu0, pk0⟩ := E
  simp only at hP
  subst hP
  refine l8.of (eff := eff) Tryz.func246 (by cbv) (by exact c1Q rfl) fun w own av ν hν => ?_
  simp only [j6]
  have hν0 : ν.length <= 2 := by rw [hν]; exact c1I _
  have hul : ((us.drop k).take (v.length + 1)).length = v.length + 1 := by rw [c1M, c2l]; omega
  have hua : Nm.F6 ((us.drop k).take (v.length + 1)) := (hu.drop k).take _
  have hps : put us k ((us.drop k).take (v.length + 1)) = us := a3U (by omega)
  generalize (us.drop k).take (v.length + 1) = u at *
  (repeat first | refine uA ?_ | (refine uK ?_ ?_; focus first | omega | trivial | (intro h; rw [h]; rfl) | (intro h h2; rw [h, h2]; rfl) | (intro h; (try simp at h); omega) | (intros; simp_all <;> omega)) | simp only [go_sem, Nat.reduceBEq, Nat.reduceAdd, Nat.reduceLeDiff, Int.reduceToNat, Int.reducePow, q9] | simp (disch := omega) only [ww, q9])
  refine S.loop (X := Nat × List Nat × Nat × Nat) (fun x => ⟨[(0, .wv 0 1 k (v.length + 1)), (1, .sl 1 (ws v)), (2, .v (.int .u64 (d : Int))), (7, .v (.int .u64 (x.2.2.1 : Int))), (8, .v (.int .u64 (x.2.2.2 : Int))), (13, .sl 1 (ws v)), (14, ints v.length), (15, ints x.1)], [.row 240 1 (ws (put us k x.2.1)), .row 240 1 (ws qs)]⟩) (fun x => x.1 <= v.length /\ Nm.a7S u v d x.1 x.2.1 x.2.2.1 x.2.2.2) (fun x => v.length - x.1) (0, u, 0, 0) ⟨c1H _, Nm.b4i v d hua⟩ (by simp only [hps]; exact Ent.mk _ _ (by (repeat first | refine uA ?_ | (refine ⟨?_, ?_⟩; focus first | rfl | trivial | (simp [slot]; done)) | rfl | trivial | simp)) (by (repeat first | refine uA ?_ | (refine ⟨?_, ?_⟩; focus first | rfl | trivial | (simp [slot]; done)) | rfl | trivial | simp)) hν0) ?_
  rintro ⟨i, out, c, b⟩ ⟨hi, hinv⟩
  simp only [ints] at hi hinv ⊢
  have hol := hinv.1
  have hc1 := hinv.2.2.1
  have hb1 := hinv.2.2.2.1
  have hpl : (put us k out).length = us.length := Y8 (by omega)
  (repeat first | refine uA ?_ | (refine uK ?_ ?_; focus first | omega | trivial | (intro h; rw [h]; rfl) | (intro h h2; rw [h, h2]; rfl) | (intro h; (try simp at h); omega) | (intros; simp_all <;> omega)) | simp only [go_sem, Nat.reduceBEq, Nat.reduceAdd, Nat.reduceLeDiff, Int.reduceToNat, Int.reducePow] | simp (disch := omega) only [ww])
  (refine uJ rfl (fun hc => ?_) fun hc => ?_)
  · have hi' : i < v.length := by omega
    have hgv : v[i]? = some v[i] := c1x hi'
    have hgu : u[i]? = some (u[i]'(by omega)) := c1x (by omega)
    have hgo : (put us k out)[k + i]? = some (u[i]'(by omega)) := by rw [Q8 (by omega) (by omega), Nm.a0l hinv.2.2.2.2.1, hgu]
    have hu32 := hua _ (c1N (show i < u.length by omega))
    have hv32 := hv _ (c1N hi')
    have hiu : i < u.length := by omega
    have hk := fun t b' h1 h2 h3 => Nm.b3N (t := t) (b' := b') hinv hi' hiu hv32 hd h1 h2 h3
    generalize v[i] = vi at *
    generalize u[i]'(by omega) = ui at *
    obtain ⟨m, hm⟩ : ∃ m : Nat, m = d * vi := ⟨_, rfl⟩
    have hm' : (d : Int) * (vi : Int) = (m : Int) := by rw [hm]; simp
    have hmb : m <= 4294967295 * 4294967295 := by rw [hm]; exact Nat.mul_le_mul (by omega) (by omega)
    rw [<- hm] at hk
    obtain ⟨s, hs⟩ : ∃ s : Nat, s = c + m := ⟨_, rfl⟩
    have hs' : (c : Int) + (m : Int) = (s : Int) := by omega
    rw [<- hs] at hk
    obtain ⟨t, b', e1, e2, h1, h2, h3⟩ := b2x ui (s % 4294967296) b hu32 (Nat.mod_lt _ (by decide)) hb1
    have hk := (hk t b' h1 h2 h3).1
    have hsl := Y7 (us := us) (out := out) (k := k) (i := i) (v := t) (by omega) (by omega)
    have hki : ((k : Int) + (i : Int)).toNat = k + i := by omega
    (repeat first | refine uA ?_ | (refine uK ?_ ?_; focus first | omega | trivial | (intro h; rw [h]; rfl) | (intro h h2; rw [h, h2]; rfl) | (intro h; (try simp at h); omega) | (intros; simp_all <;> omega)) | simp only [go_sem, Nat.reduceBEq, Nat.reduceAdd, Nat.reduceLeDiff, Int.reduceToNat, Int.reducePow, q9, D5, hgv, hgo, c1z, wd, hm', hs', a1i, Z6, e1, e2, G7, hsl, hki] | simp (disch := omega) only [ww, q9, D5, hgv, hgo, c1z, wd, hm', hs', a1i, Z6, e1, e2, G7, hsl, hki])
    refine S.next (x := (i, out, c, b)) (i + 1, _, _, _) ⟨hi', hk⟩ (by simp only; omega) (Ent.mk _ _ (by (repeat first | refine uA ?_ | (refine ⟨?_, ?_⟩; focus first | rfl | trivial | (simp [slot]; done)) | rfl | trivial | simp)) (by (repeat first | refine uA ?_ | (refine ⟨?_, ?_⟩; focus first | rfl | trivial | (simp [slot]; done)) | rfl | trivial | simp)) hν0)
  · have hi' : i = v.length := by omega
    subst hi'
    have hgu : u[v.length]? = some (u[v.length]'(by omega)) := c1x (by omega)
    have hgo : (put us k out)[k + v.length]? = some (u[v.length]'(by omega)) := by rw [Q8 (by omega) (by omega), Nm.a0l hinv.2.2.2.2.1, hgu]
    have hu32 := hua _ (c1N (show v.length < u.length by omega))
    obtain ⟨t, f, e1, e2, h1, h2, h3⟩ := b2x _ c b hu32 hc1 hb1
    obtain ⟨hk1, hk2⟩ := Nm.b5W (t := t) (f := f) hinv hul h1 h3
    have hsl := Y7 (us := us) (out := out) (k := k) (i := v.length) (v := t) (by omega) (by omega)
    have hlt := Nm.J5 4294967296 hk2
    have hlt2 := Nm.J5 4294967296 hua
    rw [c2g, hol, hul] at hlt
    rw [hul, <- hW] at hlt2
    rw [hul, <- hW] at hk1
    have hf : f = if W < d * Nm.wv 4294967296 v then 1 else 0 := by
      have : f = 0 \/ f = 1 := by omega
      rcases this with rfl | rfl
      · rw [if_neg (by omega)]
      · rw [if_pos (by omega)]
    have hdg : out.set v.length t = Nm.dig 4294967296 (v.length + 1) (W + 4294967296 ^ (v.length + 1) * f - d * Nm.wv 4294967296 v) := Nm.U8 (by decide) hk2 (by rw [c2g]; omega) (by omega)
    rw [<- hf, <- hdg]
    have hfb : decide (W < d * Nm.wv 4294967296 v) = decide ((0 : Int) < (f : Int)) := by
      rw [hf]; by_cases h : W < d * Nm.wv 4294967296 v <;> simp [h]
    rw [hfb]
    have hki : ((k : Int) + (v.length : Int)).toNat = k + v.length := by omega
    (repeat first | refine uA ?_ | (refine uK ?_ ?_; focus first | omega | trivial | (intro h; rw [h]; rfl) | (intro h h2; rw [h, h2]; rfl) | (intro h; (try simp at h); omega) | (intros; simp_all <;> omega)) | simp only [go_sem, Nat.reduceBEq, Nat.reduceAdd, Nat.reduceLeDiff, Int.reduceToNat, Int.reducePow, q9, D5, hgo, c1z, wd, e1, e2, G7, hsl, hki] | simp (disch := omega) only [ww, q9, D5, hgo, c1z, wd, e1, e2, G7, hsl, hki])
    exact S.done (d9.own rfl)
end Go.Proofs.YtogfpjohjphngaaGreatDoor
namespace Go.Proofs.YtogfpjohjphngaaGreatDoor.Eng
open Go Go.RowKit
def Met (E : Ctx) {Y : Type} (stY : Y -> St) (preY : Y -> Prop) : Act -> World -> Prop := fun a w => ∃ y ν', preY y /\ Good E ν' (stY y) a w
theorem S.join {E : Ctx} {Q : Exit -> Act -> World -> Prop} {st : St} {c : IC} {k : List It} {Y : Type} (stY : Y -> St) (preY : Y -> Prop)
  (h : S E Q st (.code c :: .inv (Met E stY preY) :: k)) (hk : ∀ y, preY y -> S E Q (stY y) k) : S E Q st (.code c :: k) := by
 intro wf ν a w hG code hc
 refine wp_mono (h wf ν a w hG code hc) fun e a' w' hq => ?_
 cases e with
 | normal =>
  simp only [wpS] at hq
  obtain ⟨y, ν', hp, hG'⟩ := hq
  exact hk y hp wf ν' a' w' hG'
 | exit i => simpa only [exS] using hq
 | _ => exact hq
theorem S.b7z {E : Ctx} {Q : Exit -> Act -> World -> Prop} {st : St} {c : IC} {id : Nat} {k : List It} {Y : Type} (stY : Y -> St) (preY : Y -> Prop)
  (h : S E Q st (.code c :: .blk id :: .inv (Met E stY preY) :: k)) (hk : ∀ y, preY y -> S E Q (stY y) k) : S E Q st (.code c :: .blk id :: k) := by
 intro wf ν a w hG code hc
 refine wp_mono (h wf ν a w hG code hc) fun e a' w' hq => ?_
 cases e with
 | normal =>
  simp only [wpS] at hq ⊢
  obtain ⟨y, ν', hp, hG'⟩ := hq
  exact hk y hp wf ν' a' w' hG'
 | exit i =>
  simp only [exS] at hq ⊢
  split
  ·rename_i e
   rw [if_pos e] at hq
   simp only [wpS] at hq
   obtain ⟨y, ν', hp, hG'⟩ := hq
   exact hk y hp wf ν' a' w' hG'
  ·rename_i e
   rw [if_neg e] at hq
   exact hq
 | _ => exact hq
theorem S.met {E : Ctx} {Q : Exit -> Act -> World -> Prop} {st : St} {k : List It} {Y : Type} {stY : Y -> St} {preY : Y -> Prop} (y : Y) (hp : preY y) (h : Ent E st (stY y)) : S E Q st (.inv (Met E stY preY) :: k) := by
 intro wf ν a w hG
 obtain ⟨ν', hG'⟩ := h wf ν a w hG
 exact ⟨y, ν', hp, hG'⟩
end Go.Proofs.YtogfpjohjphngaaGreatDoor.Eng
namespace Go.Proofs.YtogfpjohjphngaaGreatDoor
open Go Go.RowKit Eng
set_option maxRecDepth 10000
set_option maxHeartbeats 1000000
theorem b8j {us a b : List Nat} {k : Nat} (hl : a.length = b.length) (h : k + a.length <= us.length) : put (put us k a) k b = put us k b := by
 have ht : (us.take k).length = k := by rw [c1M]; omega
 rw [put, put, put, <- hl]
 congr 1
 ·congr 1
  rw [c2b, List.take_append_of_le_length (by omega), c1W (by omega)]
 ·exact List.drop_left' (by rw [c1C, ht])
theorem a1F {us a : List Nat} {k n : Nat} (hn : n = a.length) (h : k + a.length <= us.length) : ((put us k a).drop k).take n = a := by
 have ht : (us.take k).length = k := by rw [c1M]; omega
 subst hn
 rw [put, c2b, List.drop_append, ht, Nat.sub_self, List.drop_of_length_le (by omega), List.nil_append, List.drop_zero, List.take_append_of_le_length (c1I _), c1U]
theorem b8Q {us a : List Nat} {k : Nat} (hu : Nm.F6 us) (ha : Nm.F6 a) : Nm.F6 (put us k a) := ((hu.take k).app ha).app (hu.drop _)
theorem b9F {E : Ctx} (hP : E.P = Tryz.prog) (us qs v : List Nat) (k : Nat) (hl : us.length <= 274877906944) (hk : k + v.length + 1 <= us.length) (hu : Nm.F6 us) (hv : Nm.F6 v)
    {W : Nat} (hW : W = Nm.wv 4294967296 ((us.drop k).take (v.length + 1))) (hlt : 4294967296 ^ (v.length + 1) <= W + Nm.wv 4294967296 v) :
    l8 E [.row 240 1 (ws us), .row 240 1 (ws qs)] 247 [.wv 0 1 k (v.length + 1), .sl 1 (ws v)] (.tup [])
      [.row 240 1 (ws (put us k (Nm.dig 4294967296 (v.length + 1) (W + Nm.wv 4294967296 v - 4294967296 ^ (v.length + 1))))), .row 240 1 (ws qs)] [] := by
  obtain ⟨P, eff', N, w0, own0, av0, nu0, pk0⟩ := E
  simp only at hP
  subst hP
  refine l8.of (eff := eff) Tryz.func247 (by cbv) (by exact c1Q rfl) fun w own av ν hν => ?_
  simp only [j6]
  have hν0 : ν.length <= 2 := by rw [hν]; exact c1I _
  have hul : ((us.drop k).take (v.length + 1)).length = v.length + 1 := by rw [c1M, c2l]; omega
  have hua : Nm.F6 ((us.drop k).take (v.length + 1)) := (hu.drop k).take _
  have hps : put us k ((us.drop k).take (v.length + 1)) = us := a3U (by omega)
  generalize (us.drop k).take (v.length + 1) = u at *
  (repeat first | refine uA ?_ | (refine uK ?_ ?_; focus first | omega | trivial | (intros; simp_all <;> omega)) | simp (disch := omega) only [go_sem, Nat.reduceBEq, Nat.reduceAdd, Nat.reduceLeDiff, Int.reduceToNat, Int.reducePow, ww, q9])
  refine S.loop (X := Nat × List Nat × Nat) (fun x => ⟨[(0, .wv 0 1 k (v.length + 1)), (1, .sl 1 (ws v)), (4, .v (.int .u64 (x.2.2 : Int))), (7, .sl 1 (ws v)), (8, ints v.length), (9, ints x.1)], [.row 240 1 (ws (put us k x.2.1)), .row 240 1 (ws qs)]⟩) (fun x => x.1 <= v.length /\ Nm.a7K u v x.1 x.2.1 x.2.2) (fun x => v.length - x.1) (0, u, 0) ⟨c1H _, Nm.b3v v hua⟩ (by simp only [hps]; exact Ent.mk _ _ (by (repeat first | refine uA ?_ | (refine ⟨?_, ?_⟩; focus first | rfl | trivial | (simp [slot]; done)) | rfl | trivial | simp)) (by (repeat first | refine uA ?_ | (refine ⟨?_, ?_⟩; focus first | rfl | trivial | (simp [slot]; done)) | rfl | trivial | simp)) hν0) ?_
  rintro ⟨i, out, c⟩ ⟨hi, hinv⟩
  simp only [ints] at hi hinv ⊢
  have hol := hinv.1
  have hc1 := hinv.2.2.1
  have hpl : (put us k out).length = us.length := Y8 (by omega)
  (repeat first | refine uA ?_ | (refine uK ?_ ?_; focus first | omega | trivial | (intros; simp_all <;> omega)) | simp (disch := omega) only [go_sem, Nat.reduceBEq, Nat.reduceAdd, Nat.reduceLeDiff, Int.reduceToNat, Int.reducePow, ww])
  (refine uJ rfl (fun hc => ?_) fun hc => ?_)
  · have hi' : i < v.length := by omega
    have hiu : i < u.length := by omega
    have hgv : v[i]? = some v[i] := c1x hi'
    have hgu : u[i]? = some (u[i]'(by omega)) := c1x (by omega)
    have hgo : (put us k out)[k + i]? = some (u[i]'(by omega)) := by rw [Q8 (by omega) (by omega), Nm.a0l hinv.2.2.2.1, hgu]
    have hu32 := hua _ (c1N (show i < u.length by omega))
    have hv32 := hv _ (c1N hi')
    have hk := Nm.b3Y hinv hi' hiu hv32 hu32 rfl
    generalize v[i] = vi at *
    generalize u[i]'(by omega) = ui at *
    obtain ⟨s, hs⟩ : ∃ s : Nat, s = c + ui + vi := ⟨_, rfl⟩
    have hs' : (c : Int) + ((ui : Int) + (vi : Int)) = (s : Int) := by omega
    rw [<- hs] at hk
    have hsl := Y7 (us := us) (out := out) (k := k) (i := i) (v := s % 4294967296) (by omega) (by omega)
    have hki : ((k : Int) + (i : Int)).toNat = k + i := by omega
    (repeat first | refine uA ?_ | (refine uK ?_ ?_; focus first | omega | trivial | (intros; simp_all <;> omega)) | simp (disch := omega) only [go_sem, Nat.reduceBEq, Nat.reduceAdd, Nat.reduceLeDiff, Int.reduceToNat, Int.reducePow, ww, q9, D5, hgv, hgo, c1z, wd, hs', a1i, Z6, G7, hsl, hki])
    refine S.next (x := (i, out, c)) (i + 1, _, _) ⟨hi', hk⟩ (by simp only; omega) (Ent.mk _ _ (by (repeat first | refine uA ?_ | (refine ⟨?_, ?_⟩; focus first | rfl | trivial | (simp [slot]; done)) | rfl | trivial | simp)) (by (repeat first | refine uA ?_ | (refine ⟨?_, ?_⟩; focus first | rfl | trivial | (simp [slot]; done)) | rfl | trivial | simp)) hν0)
  · have hi' : i = v.length := by omega
    subst hi'
    have hgu : u[v.length]? = some (u[v.length]'(by omega)) := c1x (by omega)
    have hgo : (put us k out)[k + v.length]? = some (u[v.length]'(by omega)) := by rw [Q8 (by omega) (by omega), Nm.a0l hinv.2.2.2.1, hgu]
    have hu32 := hua _ (c1N (show v.length < u.length by omega))
    have hlt2 := Nm.J5 4294967296 hua
    have hlv := Nm.J5 4294967296 hv
    rw [hul, <- hW] at hlt2
    have hpw : 4294967296 ^ v.length <= 4294967296 ^ (v.length + 1) := c2c (by decide) (by omega)
    obtain ⟨hk1, hk2⟩ := Nm.b4D hinv hul rfl (z := W + Nm.wv 4294967296 v - 4294967296 ^ (v.length + 1)) (by rw [hul, <- hW]; omega) (by rw [hul]; omega)
    have hdg := Nm.U8 (by decide) hk2 (show _ = v.length + 1 by rw [c2g]; omega) hk1
    rw [<- hdg]
    have hsl := Y7 (us := us) (out := out) (k := k) (i := v.length) (v := (u[v.length] + c) % 4294967296) (by omega) (by omega)
    have hki : ((k : Int) + (v.length : Int)).toNat = k + v.length := by omega
    have hw1 : IntKind.u32.wrap ((u[v.length] : Int) + (c : Int)) = (((u[v.length] + c) % 4294967296 : Nat) : Int) := a1i (u[v.length] + c)
    (repeat first | refine uA ?_ | (refine uK ?_ ?_; focus first | omega | trivial | (intros; simp_all <;> omega)) | simp (disch := omega) only [go_sem, Nat.reduceBEq, Nat.reduceAdd, Nat.reduceLeDiff, Int.reduceToNat, Int.reducePow, ww, q9, D5, hgo, c1z, wd, hw1, G7, hsl, hki])
    exact S.end_ (d9.own rfl)
set_option maxHeartbeats 2000000
theorem a8h : ∀ (f x : Nat), x < 2 ^ f -> f <= 64 -> x ≠ 0 -> 0 < Lib.bitLen x /\ 2 ^ (Lib.bitLen x - 1) <= x /\ x < 2 ^ Lib.bitLen x
 | 0, x, h, _, h0 => by simp at h; omega
 | f + 1, x, h, hf, h0 => by
  have h64 : x < 2 ^ 64 := c1S h (c2c (by decide) hf)
  rw [Lib.bitLen_half x h0 h64]
  by_cases h1 : x / 2 = 0
  ·rw [h1, show Lib.bitLen 0 = 0 from rfl]
   refine ⟨by omega, ?_, ?_⟩
   ·simp; omega
   ·simp; omega
  ·obtain ⟨g0, g1, g2⟩ := a8h f (x / 2) (by rw [c2i] at h; omega) (by omega) h1
   refine ⟨by omega, ?_, ?_⟩
   ·rw [show 1 + Lib.bitLen (x / 2) - 1 = Lib.bitLen (x / 2) - 1 + 1 by omega, c2i]; omega
   ·rw [Nat.add_comm, c2i]; omega
def lz (x : Nat) : Nat := 32 - Lib.bitLen x
theorem b2G {x : Nat} (h0 : x ≠ 0) (h : x < 4294967296) : lz x < 32 /\ Lib.bitLen x + lz x = 32 /\ (x + 1) * 2 ^ lz x <= 4294967296 := by
 obtain ⟨g0, g1, g2⟩ := a8h 32 x h (by decide) h0
 have hb : Lib.bitLen x <= 32 := by
  rcases c1V 32 (Lib.bitLen x) with h1 | h1
  ·have : 2 ^ 32 <= 2 ^ (Lib.bitLen x - 1) := c2c (by decide) (by omega)
   omega
  ·exact h1
 refine ⟨by unfold lz; omega, by unfold lz; omega, ?_⟩
 have := c2h (2 ^ lz x) (Nat.succ_le_of_lt g2)
 rw [<- Nat.pow_add, show Lib.bitLen x + lz x = 32 by unfold lz; omega] at this
 exact this
theorem c1o (x : Nat) (h0 : x ≠ 0) (h : x < 4294967296) : u6 Tryz.prog 244 [.v (.int .u32 (x : Int))] (ints (lz x)) := by
 intro O w vs hO hA
 simp only [FzL, Fz] at hA
 obtain ⟨y, ys, rfl, rfl, rfl⟩ := hA
 refine (Tryz.bits_LeadingZeros32 (x : Int) w (by omega) (by omega)).mono ?_
 rintro e w' ⟨rfl, rfl⟩
 refine ⟨_, rfl, Below.refl _ _, ?_⟩
 have := (b2G h0 h).2.1
 simp only [ints, Fz, c1B]
 rw [show (32 : Int) - (Lib.bitLen x : Int) = ((lz x : Nat) : Int) by omega]
namespace Nm
theorem b0K {B : Nat} : ∀ {m L n : Nat}, m <= L -> (dig B L n).take m = dig B m n
 | 0, _, _, _ => by simp [dig]
 | m + 1, 0, _, h => by omega
 | m + 1, L + 1, n, h => by simp only [dig, List.take_succ_cons]; rw [b0K (by omega)]
theorem b2H {B : Nat} {l : List Nat} (h : ∀ w ∈ l, w < B) {k : Nat} (hk : k <= l.length) : wv B (l.drop k) = wv B l / B ^ k := by
 have e := a2n B l k hk
 have h1 : wv B (l.take k) < B ^ k := by
  have := J5 B (l := l.take k) (fun w hw => h w (List.mem_of_mem_take hw))
  rwa [c1M, Nat.min_eq_left hk] at this
 rw [e, Nat.add_mul_div_left _ _ (by omega), Nat.div_eq_of_lt h1, c2e]
theorem Est.top {W V v1 v2 top u2 p : Nat} (h : Est W V v1 v2 top u2 p) : top < v1 * 4294967296 + 4294967296 := by
 have h1 := h.wge
 have h2 := h.lt
 have h3 := h.hW
 have h4 := h.hv2
 have hp : 0 < p := by
  rcases c1Y p with h0 | h0
  ·subst h0; omega
  ·exact h0
 have h5 : (top * 4294967296 + u2) * p < (4294967296 * (v1 * 4294967296 + v2 + 1)) * p := by
  rw [c2f 4294967296]; omega
 have := Nat.lt_of_mul_lt_mul_right h5
 omega
theorem b2d {x y : List Nat} {r : Nat} (hx : F6 x) (hy : F6 y) (hl : y.length <= x.length) (hyt : 4294967296 ^ (y.length - 1) <= wv 4294967296 y) (hy0 : 0 < y.length) (hr : wv 4294967296 y * 2 ^ r < 4294967296 ^ y.length) :
  a5g (wv 4294967296 x * 2 ^ r) (dig 4294967296 y.length (wv 4294967296 y * 2 ^ r)) (x.length + 1) (x.length + 1 - y.length) (dig 4294967296 (x.length + 1) (wv 4294967296 x * 2 ^ r)) (List.replicate (x.length + 1 - y.length) 0) := by
 have hp : 0 < 2 ^ r := Nat.pow_pos (by decide)
 have hxl := J5 4294967296 hx
 have hr32 : 2 ^ r <= 4294967296 := by
  have h1 : 4294967296 ^ (y.length - 1) * 2 ^ r <= wv 4294967296 y * 2 ^ r := c2h _ hyt
  have h2 : 4294967296 ^ y.length = 4294967296 ^ (y.length - 1) * 4294967296 := by rw [<- c2i, show (y.length - 1).succ = y.length by omega]
  have h3 : 4294967296 ^ (y.length - 1) * 2 ^ r < 4294967296 ^ (y.length - 1) * 4294967296 := by omega
  exact Nat.le_of_lt (Nat.lt_of_mul_lt_mul_left h3)
 have hU : wv 4294967296 x * 2 ^ r < 4294967296 ^ (x.length + 1) := by
  rw [c2i]
  exact c1S (Nat.mul_lt_mul_of_pos_right hxl hp) (Nat.mul_le_mul_left _ hr32)
 have hwu : wv 4294967296 (dig 4294967296 (x.length + 1) (wv 4294967296 x * 2 ^ r)) = wv 4294967296 x * 2 ^ r := U3 hU
 have hwv : wv 4294967296 (dig 4294967296 y.length (wv 4294967296 y * 2 ^ r)) = wv 4294967296 y * 2 ^ r := U3 hr
 refine ⟨H6 _ _ _, a0P (by decide) _ _, by simp [H6], fun w hw => by rw [c2a hw]; decide, ?_, ?_⟩
 ·rw [hwu, List.drop_of_length_le (by simp), show wv 4294967296 [] = 0 from rfl, Nat.mul_zero, Nat.mul_zero, Nat.add_zero]
 ·rw [b2H (a0P (by decide) _ _) (by rw [H6]; omega), hwu, hwv]
  have e : 4294967296 ^ x.length = 4294967296 ^ (x.length + 1 - y.length) * 4294967296 ^ (y.length - 1) := by
   rw [<- Nat.pow_add]; congr 1; omega
  refine c1S ?_ (c2h (2 ^ r) hyt)
  rw [Nat.div_lt_iff_lt_mul (Nat.pow_pos (by decide))]
  have := Nat.mul_lt_mul_of_pos_right hxl hp
  rw [e] at this
  exact Nat.lt_of_lt_of_eq this (by rw [c2f, Nat.mul_comm])
end Nm
theorem b0y (a b : Nat) (ha : a < 4294967296) (hb : b < 4294967296) : bits .or .u64 ((a : Int) * 4294967296) (b : Int) = ((a * 4294967296 + b : Nat) : Int) := by
 have h1 : (a : Int) * 4294967296 = ((a * 4294967296 : Nat) : Int) := by omega
 rw [h1, a7H _ _ (by omega) (by omega)]
 have := Nm.a2y (a := b) (b := a) (r := 32) hb
 rw [Nat.or_comm, show (4294967296 : Nat) = 2 ^ 32 from rfl, this, Nat.add_comm]
set_option maxHeartbeats 4000000
theorem b9A (x y : List Nat) (hxl : x.length <= 274877906900) (hx : Nm.F6 x) (hy : Nm.F6 y) (hl : y.length <= x.length) (hy2 : 2 <= y.length) (hyt : 4294967296 ^ (y.length - 1) <= Nm.wv 4294967296 y) :
    u6 Tryz.prog 227 [.sl 1 (ws x), .sl 1 (ws y)] (.tup [.sl 1 (ws (Nm.dig 4294967296 (x.length + 1 - y.length) (Nm.wv 4294967296 x / Nm.wv 4294967296 y))), .sl 1 (ws (Nm.dig 4294967296 y.length (Nm.wv 4294967296 x % Nm.wv 4294967296 y)))]) := by
  refine kS b2l b2s (by rfl) fun w O => ?_
  simp only [a6M, j6, TT, II, OA, OB, OC, MM, LL, VV, FF, MG, LG, VG, FG]
  have hgy : y[y.length - 1]? = some (y[y.length - 1]'(by omega)) := c1x (by omega)
  have hyw := Nm.A9 4294967296 (l := y) (i := y.length - 1) (by omega)
  rw [show y.length - 1 + 1 = y.length by omega, c1U] at hyw
  have hyk := Nm.J5 4294967296 (l := y.take (y.length - 1)) (fun w hw => hy w (List.mem_of_mem_take hw))
  rw [c1M, Nat.min_eq_left (by omega)] at hyk
  have ht32 := hy _ (c1N (show y.length - 1 < y.length by omega))
  generalize y[y.length - 1]'(by omega) = t at *
  have ht0 : t ≠ 0 := fun h => by subst h; omega
  obtain ⟨hr32, _, htr⟩ := b2G ht0 ht32
  have hflz := c1o t ht0 ht32
  generalize lz t = r at *
  have hr : Nm.wv 4294967296 y * 2 ^ r < 4294967296 ^ y.length := by
    have h1 : Nm.wv 4294967296 y < (t + 1) * 4294967296 ^ (y.length - 1) := by
      rw [Nat.add_mul, Nat.one_mul, Nat.mul_comm]; omega
    have h2 := Nat.mul_lt_mul_of_pos_right h1 (show 0 < 2 ^ r from Nat.pow_pos (by decide))
    have h3 := c2h (4294967296 ^ (y.length - 1)) htr
    rw [<- Nat.pow_succ', show (y.length - 1).succ = y.length by omega] at h3
    refine c1S h2 ?_
    rw [c2f, Nat.mul_comm (4294967296 ^ _), <- c2f]
    exact h3
  have hi1 : ((y.length : Int) - 1).toNat = y.length - 1 := by omega
  have hti := Nm.b0K (B := 4294967296) (m := y.length) (L := y.length + 1) (n := Nm.wv 4294967296 y * 2 ^ r) (by omega)
  have hvl := Nm.H6 4294967296 y.length (Nm.wv 4294967296 y * 2 ^ r)
  have hva : Nm.F6 _ := Nm.a0P (B := 4294967296) (by decide) y.length (Nm.wv 4294967296 y * 2 ^ r)
  have hvw := Nm.U3 hr
  have hst := Nm.b2d hx hy hl hyt (by omega) hr
  have hlx := b5m x r (by omega) hx hr32
  have hly := (b5m y r (by omega) hy hr32).spec
  have htk : List.take y.length (ws (Nm.dig 4294967296 (y.length + 1) (Nm.wv 4294967296 y * 2 ^ r))) = ws (Nm.dig 4294967296 y.length (Nm.wv 4294967296 y * 2 ^ r)) := by
    rw [<- hti]; simp [ws]
  have hul := Nm.H6 4294967296 (x.length + 1) (Nm.wv 4294967296 x * 2 ^ r)
  have hn1 : (((x.length + 1 : Nat) : Int) - (y.length : Int)).toNat = x.length + 1 - y.length := by omega
  (repeat first | refine uA ?_ | (refine uK ?_ ?_; focus first | omega | trivial | (intro h; rw [h]; rfl) | (intro h h2; rw [h, h2]; rfl) | (intro h; (try simp at h); omega) | (intros; simp_all <;> omega)) | simp only [go_sem, Nat.reduceBEq, Nat.reduceAdd, Nat.reduceLeDiff, Int.reduceToNat, Int.reducePow, q9, D5, hgy, hi1, c1z, wd, Nm.H6, htk, hn1, List.length_replicate] | simp (disch := omega) only [ww, q9, D5, hgy, hi1, c1z, wd, Nm.H6, htk, hn1, List.length_replicate] | refine l9.t (FNew.t hlx rfl) ?_ | (refine uB hflz ?_ ?_; exact rfl) | (refine uB hly ?_ ?_; exact rfl))
  clear hflz hlx hly htk hti hgy
  have hyn : ∃ m, y.length = m + 2 := ⟨y.length - 2, by omega⟩
  obtain ⟨m, hm⟩ := hyn
  have hV : Nm.wv 4294967296 y * 2 ^ r / 2 ^ r = Nm.wv 4294967296 y := Nat.mul_div_cancel _ (Nat.pow_pos (by decide))
  generalize Nm.dig 4294967296 y.length (Nm.wv 4294967296 y * 2 ^ r) = v at *
  generalize hn : y.length = n at *
  refine S.loop (X := Nat × List Nat × List Nat) (fun s => ⟨[(10, ints ((s.1 : Int) - 1)), (4, .rv 1), (9, .sl 1 (ws v)), (8, .rv 0), (7, ints n), (6, ints r)], [.row 240 1 (ws s.2.1), .row 240 1 (ws s.2.2)]⟩) (fun s => s.1 <= x.length + 1 - n /\ Nm.a5g (Nm.wv 4294967296 x * 2 ^ r) v (x.length + 1) s.1 s.2.1 s.2.2) (fun s => s.1) (x.length + 1 - n, _, _) ⟨c1I _, hst⟩ (by simp only [<- a2j]; exact Ent.mk _ _ (by repeat' (first | exact a0o.nil | exact Imp.refl rfl | exact Imp.eq (by simp [slot]; omega) rfl | refine a0o.cons ?_ ?_)) (by (repeat first | refine uA ?_ | (refine ⟨?_, ?_⟩; focus first | rfl | trivial | (simp [slot]; done)) | rfl | trivial | simp)) (c1H _)) ?_
  clear hst
  rintro ⟨j, us, qs⟩ ⟨hj, hinv⟩
  simp only [ints] at hj hinv ⊢
  have hus := hinv.1
  have hua := hinv.2.1
  have hql := hinv.2.2.1
  have hqa := hinv.2.2.2.1
  (repeat first | refine uA ?_ | (refine uK ?_ ?_; focus first | omega | trivial | (intro h; rw [h]; rfl) | (intro h h2; rw [h, h2]; rfl) | (intro h; (try simp at h); omega) | (intros; simp_all <;> omega)) | simp only [go_sem, Nat.reduceBEq, Nat.reduceAdd, Nat.reduceLeDiff, Int.reduceToNat, Int.reducePow] | simp (disch := omega) only [ww])
  (refine uJ rfl (fun hc => ?_) fun hc => ?_)
  · obtain ⟨k, rfl⟩ : ∃ k, j = k + 1 := ⟨j - 1, by omega⟩
    rw [show (((k + 1 : Nat) : Int) - 1) = (k : Int) by omega]
    obtain ⟨g1, g2, g3, g4⟩ := Nm.a9x hinv hva (by omega)
    have hwa : Nm.F6 ((us.drop k).take (v.length + 1)) := (hua.drop k).take _
    have hv1 : 0 < v[m + 1]'(by omega) := by
      have h1 := Nm.A9 4294967296 (l := v) (i := m + 1) (by omega)
      rw [c1W (by omega)] at h1
      have h2 := Nm.J5 4294967296 (l := v.take (m + 1)) (fun w hw => hva w (List.mem_of_mem_take hw))
      rw [c1M, Nat.min_eq_left (by omega)] at h2
      have h3 : Nm.wv 4294967296 y <= Nm.wv 4294967296 y * 2 ^ r := Nat.le_mul_of_pos_right _ (Nat.pow_pos (by decide))
      rw [show n - 1 = m + 1 by omega] at hyt
      rcases c1Y (v[m + 1]'(by omega)) with h0 | h0
      · rw [h0] at h1; omega
      · exact h0
    have hE := Nm.Est.of (m := m) (by omega) (by rw [g4]; omega) hva hwa hv1 (by rw [g1]; exact g2)
    simp only [List.getElem_take, List.getElem_drop, g1] at hE
    have ha2 : us[k + n]? = some (us[k + (m + 2)]'(by omega)) := (show us[k + n]? = us[k + (m + 2)]? by rw [hm]).trans (c1x (by omega))
    have ha1 : us[k + (m + 1)]? = some (us[k + (m + 1)]'(by omega)) := c1x (by omega)
    have ha0 : us[k + m]? = some (us[k + m]'(by omega)) := c1x (by omega)
    have hb1 : v[m + 1]? = some (v[m + 1]'(by omega)) := c1x (by omega)
    have hb0 : v[m]? = some (v[m]'(by omega)) := c1x (by omega)
    have hA2 := hua _ (c1N (show k + (m + 2) < us.length by omega))
    have hA1 := hua _ (c1N (show k + (m + 1) < us.length by omega))
    have hA0 := hua _ (c1N (show k + m < us.length by omega))
    have hB1 := hva _ (c1N (show m + 1 < v.length by omega))
    have hB0 := hva _ (c1N (show m < v.length by omega))
    generalize us[k + (m + 2)]'(by omega) = a2 at *
    generalize us[k + (m + 1)]'(by omega) = a1 at *
    generalize us[k + m]'(by omega) = a0 at *
    generalize v[m + 1]'(by omega) = v1 at *
    generalize v[m]'(by omega) = v2 at *
    have hi2 : ((k : Int) + (n : Int)).toNat = k + n := by omega
    have hi3 : ((k : Int) + (n : Int) - 1).toNat = k + (m + 1) := by omega
    have hi4 : ((k : Int) + (n : Int) - 2).toNat = k + m := by omega
    have hi5 : ((n : Int) - 1).toNat = m + 1 := by omega
    have hi6 : ((n : Int) - 2).toNat = m := by omega
    have htop := b0y a2 a1 hA2 hA1
    have htb : a2 * 4294967296 + a1 < 18446744073709551616 := by omega
    have hs0 := hE.start
    have htp := hE.top
    have hd0 := Nat.div_add_mod (a2 * 4294967296 + a1) v1
    have hr0 := Nat.mod_lt (a2 * 4294967296 + a1) hv1
    obtain ⟨top, htd⟩ : ∃ top, top = a2 * 4294967296 + a1 := ⟨_, rfl⟩
    rw [<- htd] at hE htop htb hs0 htp hd0 hr0
    have hq : ∀ q : Nat, q = top / v1 -> Int.tdiv (top : Int) (v1 : Int) = (q : Int) := fun q h => by rw [h]; rfl
    have hqr : ∀ q : Nat, q = top % v1 -> Int.tmod (top : Int) (v1 : Int) = (q : Int) := fun q h => by rw [h]; rfl
    obtain ⟨d0, hd0e⟩ : ∃ d0, d0 = top / v1 := ⟨_, rfl⟩
    obtain ⟨e0, he0e⟩ : ∃ e0, e0 = top % v1 := ⟨_, rfl⟩
    have hq := hq d0 hd0e
    have hqr := hqr e0 he0e
    rw [<- hd0e, <- he0e] at hd0
    rw [<- hd0e] at hs0
    rw [<- he0e] at hr0
    have hd0b : d0 <= 18446744073709551615 := by
      have : d0 <= top := by rw [hd0e]; exact Nat.div_le_self _ _
      omega
    clear hd0e he0e
    (repeat first | refine uA ?_ | (refine uK ?_ ?_; focus first | omega | trivial | (intro h; rw [h]; rfl) | (intro h h2; rw [h, h2]; rfl) | (intro h; (try simp at h); omega) | (intros; simp_all <;> omega)) | simp only [go_sem, Nat.reduceBEq, Nat.reduceAdd, Nat.reduceLeDiff, Int.reduceToNat, Int.reducePow, q9, D5, ha2, ha1, hb1, c1z, wd, hi2, hi3, hi5, htop, hq, hqr] | simp (disch := omega) only [ww, q9, D5, ha2, ha1, hb1, c1z, wd, hi2, hi3, hi5, htop, hq, hqr])
    refine S.b7z (Y := Nat) (fun d => ⟨[(10, ints k), (4, .rv 1), (9, .sl 1 (ws v)), (8, .rv 0), (7, ints n), (6, ints r), (12, .v (.int .u64 (d : Int)))], [.row 240 1 (ws us), .row 240 1 (ws qs)]⟩) (fun d => d < 4294967296 /\ ((d * Nm.wv 4294967296 v <= Nm.wv 4294967296 (us.drop k) /\ Nm.wv 4294967296 (us.drop k) / Nm.wv 4294967296 v = d) \/ (Nm.wv 4294967296 (us.drop k) < d * Nm.wv 4294967296 v /\ 0 < d /\ Nm.wv 4294967296 (us.drop k) / Nm.wv 4294967296 v = d - 1))) ?_ ?_
    · refine S.loop (X := Nat × Nat) (fun s => ⟨[(10, ints k), (4, .rv 1), (9, .sl 1 (ws v)), (8, .rv 0), (7, ints n), (6, ints r), (12, .v (.int .u64 (s.1 : Int))), (13, .v (.int .u64 (s.2 : Int)))], [.row 240 1 (ws us), .row 240 1 (ws qs)]⟩) (fun s => Nm.wv 4294967296 (us.drop k) / Nm.wv 4294967296 v <= s.1 /\ top = s.1 * v1 + s.2 /\ s.2 < 4294967296 /\ s.1 <= 18446744073709551615) (fun s => s.1) (d0, e0) ⟨hs0, by rw [<- hd0, Nat.mul_comm], by simp only; omega, hd0b⟩ (by (repeat first | refine uA ?_ | (refine ⟨?_, ?_⟩; focus first | rfl | trivial | (simp [slot]; done)) | rfl | trivial | simp)) ?_
      clear hs0 hd0 hr0 hd0b hq hqr
      rintro ⟨d, rest⟩ ⟨p1, p2, p3, p4⟩
      simp only [ints] at p1 p2 p3 p4 ⊢
      have hor := b0y rest a0 p3 hA0
      (repeat first | refine uA ?_ | (refine uK ?_ ?_; focus first | omega | trivial | (intro h; rw [h]; rfl) | (intro h h2; rw [h, h2]; rfl) | (intro h; (try simp at h); omega) | (intros; simp_all <;> omega)) | simp only [go_sem, Nat.reduceBEq, Nat.reduceAdd, Nat.reduceLeDiff, Int.reduceToNat, Int.reducePow, q9, D5, hb0, ha0, c1z, wd, hi4, hi6, Z6, hor] | simp (disch := omega) only [ww, q9, D5, hb0, ha0, c1z, wd, hi4, hi6, Z6, hor])
      have hmul : d < 4294967296 -> IntKind.u64.wrap ((d : Int) * (v2 : Int)) = ((d * v2 : Nat) : Int) := fun h => by
        have h1 : d * v2 <= 4294967295 * 4294967295 := Nat.mul_le_mul (by omega) (by omega)
        rw [<- Int.natCast_mul, Eng.wrap_u64 (by omega)]
      (refine uJ rfl (fun hc => ?_) fun hc => ?_)
      · have hdec : Nm.wv 4294967296 (us.drop k) / Nm.wv 4294967296 v < d := by
          refine hE.dec p1 p2 ?_
          rcases c1V d 4294967296 with h | h
          · rw [hmul h] at hc
            omega
          · exact Or.inl h
        have hd1 : 1 <= d := Nat.lt_of_le_of_lt (c1H _) hdec
        have hdm : (d : Int) - 1 = ((d - 1 : Nat) : Int) := by clear hdec p1; omega
        have hrm : (rest : Int) + (v1 : Int) = ((rest + v1 : Nat) : Int) := by omega
        have ht2 : top = (d - 1) * v1 + (rest + v1) := by
          rw [p2]
          conv => lhs; rw [show d = d - 1 + 1 by omega, Nat.add_mul, Nat.one_mul]
          omega
        (repeat first | refine uA ?_ | (refine uK ?_ ?_; focus first | omega | trivial | (intro h; rw [h]; rfl) | (intro h h2; rw [h, h2]; rfl) | (intro h; (try simp at h); omega) | (intros; simp_all <;> omega)) | simp only [go_sem, Nat.reduceBEq, Nat.reduceAdd, Nat.reduceLeDiff, Int.reduceToNat, Int.reducePow, q9, D5, hb1, c1z, wd, hi5, Z6, hdm, hrm] | simp (disch := omega) only [ww, q9, D5, hb1, c1z, wd, hi5, Z6, hdm, hrm])
        (refine uJ rfl (fun hc => ?_) fun hc => ?_)
        · have hsm := hE.small ht2 htp (by omega)
          (repeat first | refine uA ?_ | (refine uK ?_ ?_; focus first | omega | trivial | (intro h; rw [h]; rfl) | (intro h h2; rw [h, h2]; rfl) | (intro h; (try simp at h); omega) | (intros; simp_all <;> omega)) | simp only [go_sem, Nat.reduceBEq, Nat.reduceAdd, Nat.reduceLeDiff, Int.reduceToNat, Int.reducePow] | simp (disch := omega) only [ww])
          exact S.met (d - 1) ⟨hsm, hE.fin (by omega) ht2 hsm (by omega)⟩ (by (repeat first | refine uA ?_ | (refine ⟨?_, ?_⟩; focus first | rfl | trivial | (simp [slot]; done)) | rfl | trivial | simp))
        · (repeat first | refine uA ?_ | (refine uK ?_ ?_; focus first | omega | trivial | (intro h; rw [h]; rfl) | (intro h h2; rw [h, h2]; rfl) | (intro h; (try simp at h); omega) | (intros; simp_all <;> omega)) | simp only [go_sem, Nat.reduceBEq, Nat.reduceAdd, Nat.reduceLeDiff, Int.reduceToNat, Int.reducePow] | simp (disch := omega) only [ww])
          refine S.next (x := (d, rest)) (d - 1, rest + v1) ⟨by simp only; omega, ht2, by simp only; omega, by simp only; omega⟩ (by simp only; omega) (by (repeat first | refine uA ?_ | (refine ⟨?_, ?_⟩; focus first | rfl | trivial | (simp [slot]; done)) | rfl | trivial | simp))
      · have hdl : d < 4294967296 := by
          rcases c1V d 4294967296 with h | h
          · exact h
          · exfalso; omega
        rw [hmul hdl] at hc
        (repeat first | refine uA ?_ | (refine uK ?_ ?_; focus first | omega | trivial | (intro h; rw [h]; rfl) | (intro h h2; rw [h, h2]; rfl) | (intro h; (try simp at h); omega) | (intros; simp_all <;> omega)) | simp only [go_sem, Nat.reduceBEq, Nat.reduceAdd, Nat.reduceLeDiff, Int.reduceToNat, Int.reducePow] | simp (disch := omega) only [ww])
        exact S.met d ⟨hdl, hE.fin p1 p2 hdl (by omega)⟩ (by (repeat first | refine uA ?_ | (refine ⟨?_, ?_⟩; focus first | rfl | trivial | (simp [slot]; done)) | rfl | trivial | simp))
    · clear hs0 hd0 hr0 hd0b hq hqr
      rintro d ⟨hd32, hfin⟩
      simp only [ints]
      generalize hW : Nm.wv 4294967296 (us.drop k) = W at *
      generalize hVV : Nm.wv 4294967296 v = V at *
      have htake := c0f (E := ⟨Tryz.prog, eff, 179, w, fun _ => False, O, [], []⟩) rfl us qs v k d (by omega) (by omega) hua hva hd32 (W := W) (by rw [g1])
      rw [hVV] at htake
      have hlo : ((k : Int) + (n : Int) + 1).toNat - k = v.length + 1 := by omega
      have hqk : k < qs.length := by omega
      have hgq : qs[k]? = some (qs[k]'hqk) := c1x hqk
      have hpos : 0 < V := hE.pos
      have hlk : k + v.length + 1 <= us.length := by omega
      have hWl : W < 4294967296 ^ (v.length + 1) := by
        have := Nm.J5 4294967296 hwa
        rwa [g4, g1] at this
      have hVl : V <= 4294967296 ^ (v.length + 1) := by
        rw [<- hVV]
        exact Nat.le_of_lt (c1S (Nm.J5 4294967296 hva) (c2c (by decide) (by omega)))
      have hput : ∀ l, put us k (Nm.dig 4294967296 (v.length + 1) l) = us.take k ++ Nm.dig 4294967296 (v.length + 1) l ++ us.drop (k + v.length + 1) := fun l => by
        rw [put, Nm.H6, Nat.add_assoc]
      have hend : Nm.a5g (Nm.wv 4294967296 x * 2 ^ r) v (x.length + 1) k (put us k (Nm.dig 4294967296 (v.length + 1) (W - W / V * V))) (qs.set k (W / V)) := by
        rw [hput]
        refine Nm.b3A hinv hva (by omega) (Nm.H6 _ _ _) (Nm.a0P (by decide) _ _) (by rw [hW, hVV]) ?_ (by rw [hVV]; exact hpos)
        have hm1 := Nat.div_mul_le_self W V
        rw [Nm.U3 (by omega), hW, hVV]; omega
      (repeat first | refine uA ?_ | (refine uK ?_ ?_; focus first | omega | trivial | (intro h; rw [h]; rfl) | (intro h h2; rw [h, h2]; rfl) | (intro h; (try simp at h); omega) | (intros; simp_all <;> omega)) | simp only [go_sem, Nat.reduceBEq, Nat.reduceAdd, Nat.reduceLeDiff, Int.reduceToNat, Int.reducePow, q9, hlo] | simp (disch := omega) only [ww, q9, hlo] | refine l9.t htake ?_)
      (refine uJ rfl (fun hc => ?_) fun hc => ?_)
      · rcases hfin with ⟨h1, h2⟩ | ⟨h1, h2, h3⟩
        · omega
        rw [if_pos h1]
        have hm : (d - 1) * V + V = d * V := by
          conv => rhs; rw [show d = d - 1 + 1 by omega, Nat.add_mul, Nat.one_mul]
        have hm2 := Nat.div_mul_le_self W V
        rw [h3] at hend hm2
        have hpl : (put us k (Nm.dig 4294967296 (v.length + 1) (W + 4294967296 ^ (v.length + 1) * 1 - d * V))).length = us.length := Y8 (by rw [Nm.H6]; omega)
        have hdV : d * V <= W + 4294967296 ^ (v.length + 1) := by
          omega
        have hback := b9F (E := ⟨Tryz.prog, eff, 179, w, fun _ => False, O, [], []⟩) rfl (put us k (Nm.dig 4294967296 (v.length + 1) (W + 4294967296 ^ (v.length + 1) * 1 - d * V))) qs v k (by omega) (by omega) (b8Q hua (Nm.a0P (by decide) _ _)) hva (W := W + 4294967296 ^ (v.length + 1) * 1 - d * V) (by
          rw [a1F (Nm.H6 _ _ _).symm (by rw [Nm.H6]; omega), Nm.U3 (by omega)]) (by rw [hVV]; omega)
        rw [hVV, b8j (by rw [Nm.H6, Nm.H6]) (by rw [Nm.H6]; omega), show W + 4294967296 ^ (v.length + 1) * 1 - d * V + V - 4294967296 ^ (v.length + 1) = W - (d - 1) * V by omega] at hback
        have hdm : (d : Int) - 1 = ((d - 1 : Nat) : Int) := by omega
        (repeat first | refine uA ?_ | (refine uK ?_ ?_; focus first | omega | trivial | (intro h; rw [h]; rfl) | (intro h h2; rw [h, h2]; rfl) | (intro h; (try simp at h); omega) | (intros; simp_all <;> omega)) | simp only [go_sem, Nat.reduceBEq, Nat.reduceAdd, Nat.reduceLeDiff, Int.reduceToNat, Int.reducePow, q9, D5, hgq, c1z, wd, hlo, hpl, hdm, G7] | simp (disch := omega) only [ww, q9, D5, hgq, c1z, wd, hlo, hpl, hdm, G7] | refine l9.t hback ?_)
        refine S.next (x := (k + 1, us, qs)) (k, _, _) ⟨by simp only; omega, hend⟩ (by simp only; omega) (by (repeat first | refine uA ?_ | (refine ⟨?_, ?_⟩; focus first | rfl | trivial | (simp [slot]; done)) | rfl | trivial | simp))
      · rcases hfin with ⟨h1, h2⟩ | ⟨h1, h2, h3⟩
        · rw [if_neg (by omega), Nat.mul_zero, Nat.add_zero]
          rw [h2] at hend
          (repeat first | refine uA ?_ | (refine uK ?_ ?_; focus first | omega | trivial | (intro h; rw [h]; rfl) | (intro h h2; rw [h, h2]; rfl) | (intro h; (try simp at h); omega) | (intros; simp_all <;> omega)) | simp only [go_sem, Nat.reduceBEq, Nat.reduceAdd, Nat.reduceLeDiff, Int.reduceToNat, Int.reducePow, q9, D5, hgq, c1z, wd, G7] | simp (disch := omega) only [ww, q9, D5, hgq, c1z, wd, G7])
          refine S.next (x := (k + 1, us, qs)) (k, _, _) ⟨by simp only; omega, hend⟩ (by simp only; omega) (by (repeat first | refine uA ?_ | (refine ⟨?_, ?_⟩; focus first | rfl | trivial | (simp [slot]; done)) | rfl | trivial | simp))
        · omega
  · have hj0 : j = 0 := by omega
    subst hj0
    clear hc hj
    obtain ⟨e1, e2⟩ := Nm.b5e hinv hva (by omega)
    rw [hvw, Nat.mul_div_mul_right _ _ (Nat.pow_pos (by decide))] at e1
    rw [hvw, Nat.mul_mod_mul_right, hvl] at e2
    have hq : qs = Nm.dig 4294967296 (x.length + 1 - n) (Nm.wv 4294967296 x / Nm.wv 4294967296 y) := Nm.U8 (by decide) hqa (by omega) e1
    rw [<- hq]
    have hps : put us 0 (us.take n) = us := by
      have := a3U (us := us) (k := 0) (n := n) (by omega)
      rwa [List.drop_zero] at this
    have hra : Nm.F6 (us.take n) := hua.take n
    have hrl : (us.take n).length = n := by rw [c1M]; omega
    generalize us.take n = r0 at *
    (repeat first | refine uA ?_ | (refine uK ?_ ?_; focus first | omega | trivial | (intro h; rw [h]; rfl) | (intro h h2; rw [h, h2]; rfl) | (intro h; (try simp at h); omega) | (intros; simp_all <;> omega)) | simp only [go_sem, Nat.reduceBEq, Nat.reduceAdd, Nat.reduceLeDiff, Int.reduceToNat, Int.reducePow, q9] | simp (disch := omega) only [ww, q9])
    refine S.loop (X := Nat × List Nat) (fun s => ⟨[(4, .rv 1), (5, .wv 0 1 0 n), (6, ints r), (7, ints n), (8, .rv 0), (145, ints n), (146, ints s.1)], [.row 240 1 (ws (put us 0 s.2)), .row 240 1 (ws qs)]⟩) (fun s => s.1 <= n /\ Nm.a3I r0 (2 ^ r) s.1 s.2) (fun s => n - s.1) (0, r0) ⟨c1H _, Nm.a9I hra⟩ (by simp only [hps]; exact (by (repeat first | refine uA ?_ | (refine ⟨?_, ?_⟩; focus first | rfl | trivial | (simp [slot]; done)) | rfl | trivial | simp))) ?_
    rintro ⟨i, out⟩ ⟨hi, hri⟩
    simp only [ints] at hi hri ⊢
    have hol := hri.1
    have hpl : (put us 0 out).length = us.length := Y8 (by omega)
    (repeat first | refine uA ?_ | (refine uK ?_ ?_; focus first | omega | trivial | (intro h; rw [h]; rfl) | (intro h h2; rw [h, h2]; rfl) | (intro h; (try simp at h); omega) | (intros; simp_all <;> omega)) | simp only [go_sem, Nat.reduceBEq, Nat.reduceAdd, Nat.reduceLeDiff, Int.reduceToNat, Int.reducePow] | simp (disch := omega) only [ww])
    (refine uJ rfl (fun hc => ?_) fun hc => ?_)
    · have hi' : i < n := by omega
      have hgr : r0[i]? = some (r0[i]'(by omega)) := c1x (by omega)
      have hgo : (put us 0 out)[i]? = some (r0[i]'(by omega)) := by
        have := Q8 (us := us) (out := out) (k := 0) (i := i) (by omega) (by omega)
        rw [c2e] at this
        rw [this, Nm.a0l hri.2.2.1, hgr]
      have hr32' := hra _ (c1N (show i < r0.length by omega))
      have hir : i < r0.length := by omega
      have hk := fun t ht => Nm.a9M (t := t) hri hr32 hir hra ht
      have hset : ∀ a, (put us 0 out).set i a = put us 0 (out.set i a) := fun a => by
        have := Y7 (us := us) (out := out) (k := 0) (i := i) (v := a) (by omega) (by omega)
        rwa [c2e] at this
      generalize r0[i]'(by omega) = ri at *
      have hsh : Int.fdiv (ri : Int) (2 ^ min r 32) = ((ri / 2 ^ r : Nat) : Int) := by
        rw [show min r 32 = r by omega, <- a1C]; congr 1
      have hrb : ri / 2 ^ r < 4294967296 := Nat.lt_of_le_of_lt (Nat.div_le_self _ _) hr32'
      generalize ri / 2 ^ r = rs at *
      (repeat first | refine uA ?_ | (refine uK ?_ ?_; focus first | omega | trivial | (intro h; rw [h]; rfl) | (intro h h2; rw [h, h2]; rfl) | (intro h; (try simp at h); omega) | (intros; simp_all <;> omega)) | simp only [go_sem, Nat.reduceBEq, Nat.reduceAdd, Nat.reduceLeDiff, Int.reduceToNat, Int.reducePow, q9, D5, hgo, c2e, c1z, wd, G7, hsh, hset] | simp (disch := omega) only [ww, q9, D5, hgo, c2e, c1z, wd, G7, hsh, hset])
      (refine uJ rfl (fun hc => ?_) fun hc => ?_)
      · have hi1 : i + 1 < n := by omega
        have hpl1 : (put us 0 (out.set i rs)).length = us.length := Y8 (by rw [c2g]; omega)
        have hg1 : (put us 0 (out.set i rs))[i]? = some rs := by
          rw [<- hset, List.getElem?_set_self (by omega)]
        have hg3 : r0[i + 1]? = some (r0[i + 1]'(by omega)) := c1x (by omega)
        have hg2 : (put us 0 (out.set i rs))[i + 1]? = some (r0[i + 1]'(by omega)) := by
          have := Q8 (us := us) (out := out) (k := 0) (i := i + 1) (by omega) (by omega)
          rw [c2e] at this
          rw [<- hset, List.getElem?_set_ne (by omega), this]
          have h3 := congrArg (fun l => l[1]?) hri.2.2.1
          simp only [c2m] at h3
          rw [h3, hg3]
        have hn32 := hra _ (c1N (show i + 1 < r0.length by omega))
        have hgd : r0.getD (i + 1) 0 = r0[i + 1]'(by omega) := Nm.getD_lt (by omega)
        rw [hgd] at hk
        generalize r0[i + 1]'(by omega) = rn at *
        have hmb : rn * 2 ^ (32 - r) < 18446744073709551616 := by
          have h1 : 2 ^ (32 - r) <= 2 ^ 32 := c2c (by decide) (by omega)
          have h2 : rn * 2 ^ (32 - r) <= 4294967295 * 4294967296 := Nat.mul_le_mul (by omega) h1
          omega
        have hshl := b2X rn (32 - r) hmb (by omega)
        have hrr : ((32 : Int) - (r : Int)).toNat = 32 - r := by omega
        have horl := b5N rs (rn * 2 ^ (32 - r)) hrb
        have hk := hk _ rfl
        rw [if_pos (by omega)] at hk
        generalize rn * 2 ^ (32 - r) = sh at *
        generalize hto : rs ||| sh % 4294967296 = to at *
        have hset2 : (put us 0 (out.set i rs)).set i to = put us 0 (out.set i to) := by
          have := Y7 (us := us) (out := out.set i rs) (k := 0) (i := i) (v := to) (by rw [c2g]; omega) (by rw [c2g]; omega)
          rwa [c2e, List.set_set] at this
        have hi1n : ((i : Int) + 1).toNat = i + 1 := by omega
        (repeat first | refine uA ?_ | (refine uK ?_ ?_; focus first | omega | trivial | (intro h; rw [h]; rfl) | (intro h h2; rw [h, h2]; rfl) | (intro h; (try simp at h); omega) | (intros; simp_all <;> omega)) | simp only [go_sem, Nat.reduceBEq, Nat.reduceAdd, Nat.reduceLeDiff, Int.reduceToNat, Int.reducePow, q9, D5, hg1, hg2, hpl1, c2e, c1z, wd, hrr, hi1n, hshl, a1i, horl, G7, hset2] | simp (disch := omega) only [ww, q9, D5, hg1, hg2, hpl1, c2e, c1z, wd, hrr, hi1n, hshl, a1i, horl, G7, hset2])
        refine S.next (x := (i, out)) (i + 1, _) ⟨hi', hk.1⟩ (by simp only; omega) (by (repeat first | refine uA ?_ | (refine ⟨?_, ?_⟩; focus first | rfl | trivial | (simp [slot]; done)) | rfl | trivial | simp))
      · have hk := hk _ rfl
        rw [if_neg (by omega)] at hk
        (repeat first | refine uA ?_ | (refine uK ?_ ?_; focus first | omega | trivial | (intro h; rw [h]; rfl) | (intro h h2; rw [h, h2]; rfl) | (intro h; (try simp at h); omega) | (intros; simp_all <;> omega)) | simp only [go_sem, Nat.reduceBEq, Nat.reduceAdd, Nat.reduceLeDiff, Int.reduceToNat, Int.reducePow] | simp (disch := omega) only [ww])
        refine S.next (x := (i, out)) (i + 1, _) ⟨hi', hk.1⟩ (by simp only; omega) (by (repeat first | refine uA ?_ | (refine ⟨?_, ?_⟩; focus first | rfl | trivial | (simp [slot]; done)) | rfl | trivial | simp))
    · have hi' : i = n := by omega
      subst hi'
      rw [<- hrl] at hri
      have he := Nm.b1B hri (by omega) e2
      have hd : out = Nm.dig 4294967296 i (Nm.wv 4294967296 x % Nm.wv 4294967296 y) := Nm.U8 (by decide) hri.2.1 (by omega) he
      rw [<- hd]
      have hwin : ((ws (put us 0 out)).drop 0).take i = ws out := by
        rw [List.drop_zero, put, List.take_zero, List.nil_append]
        simp only [ws, c2p]
        rw [List.take_append_of_le_length (by simp; omega), c1W (by simp; omega)]
      (repeat first | refine uA ?_ | (refine uK ?_ ?_; focus first | omega | trivial | (intro h; rw [h]; rfl) | (intro h h2; rw [h, h2]; rfl) | (intro h; (try simp at h); omega) | (intros; simp_all <;> omega)) | simp only [go_sem, Nat.reduceBEq, Nat.reduceAdd, Nat.reduceLeDiff, Int.reduceToNat, Int.reducePow] | simp (disch := omega) only [ww])
      exact S.done (d9.out rfl (Imp.tup (j5.cons (Imp.frz rfl rfl rfl) (j5.cons (Imp.M5 rfl rfl (by simp only [q9]; omega) hwin) j5.nil))) rfl)
namespace Nm
def a7U (x : List Nat) (d j : Nat) (out : List Nat) (rest : Nat) : Prop :=
 out.length = x.length /\ F6 out /\ out.take j = x.take j /\ wv 4294967296 (out.drop j) = wv 4294967296 (x.drop j) / d /\ rest = wv 4294967296 (x.drop j) % d
theorem b1N {x : List Nat} {d : Nat} (hx : F6 x) : a7U x d x.length x 0 := by
 refine ⟨rfl, hx, rfl, ?_, ?_⟩ <;> rw [List.drop_of_length_le (c1I _)] <;> simp [wv]
theorem b2e {x : List Nat} {d j : Nat} {out : List Nat} {rest : Nat} (h : a7U x d (j + 1) out rest) (hj : j < x.length) (hd : 0 < d) (hd32 : d < 4294967296) (hx : x[j] < 4294967296) :
  a7U x d j (out.set j ((rest * 4294967296 + x[j]) / d)) ((rest * 4294967296 + x[j]) % d) /\ (rest * 4294967296 + x[j]) / d < 4294967296 /\ rest < 4294967296 := by
 obtain ⟨h1, h2, h3, h4, h5⟩ := h
 have hrd : rest < d := by rw [h5]; exact Nat.mod_lt _ hd
 have hs : (rest * 4294967296 + x[j]) / d < 4294967296 := by
  rw [Nat.div_lt_iff_lt_mul hd]
  have : (rest + 1) * 4294967296 <= d * 4294967296 := c2h _ hrd
  rw [Nat.mul_comm d] at this; omega
 have hxd := a1Y 4294967296 hj
 have hW := Nat.div_add_mod (wv 4294967296 (x.drop (j + 1))) d
 rw [<- h5, <- h4] at hW
 have e : wv 4294967296 (x.drop j) = (rest * 4294967296 + x[j]) + d * (4294967296 * wv 4294967296 (out.drop (j + 1))) := by
  rw [hxd, <- hW, Nat.mul_add]; grind
 refine ⟨⟨by simp [h1], h2.set hs, ?_, ?_, ?_⟩, hs, by omega⟩
 ·rw [List.take_set_of_le (c1I _)]
  have := congrArg (List.take j) h3
  simpa [List.take_take, Nat.min_eq_left (show j <= j + 1 by omega)] using this
 ·rw [a1Y _ (by rw [c2g]; omega), List.getElem_set_self, List.drop_set_of_lt (by omega), e, Nat.add_mul_div_left _ _ hd]
 ·rw [e, Nat.add_mul_mod_self_left]
theorem I5 {α : Type} {a b : List α} {j : Nat} (h : a.take (j + 1) = b.take (j + 1)) : a[j]? = b[j]? := by
 have := congrArg (fun l => l[j]?) h
 simpa using this
end Nm
theorem a0d (l : List UInt8) : (bs l = (⟨#[]⟩ : ByteArray)) = (l = []) := a5b l []
theorem b4c (a b : List UInt8) (ha : a.length <= 274877906944) (hb : b.length <= 274877906944) (h0 : Nm.val b ≠ 0) : u6 Tryz.prog 183 [sb a, sb b] (.tup [sb (Nm.enc (Nm.val a / Nm.val b)), sb (Nm.enc (Nm.val a % Nm.val b)), ints 0]) := by
  refine kS b3O b3V (by rfl) fun w O => ?_
  simp only [a7N, j6, TT, II, OA, OB, OC, MM, LL, VV, FF, MG, LG, VG, FG, sb, ints]
  have hta := Nm.V5 a
  have htb := Nm.V5 b
  have hva := Nm.O3 a
  have hvb := Nm.O3 b
  have hla := Nm.R9 (Nm.trim a)
  have hlb := Nm.R9 (Nm.trim b)
  have hwa := Nm.a0g (Nm.trim a)
  have hwb := Nm.a0g (Nm.trim b)
  have h3a := Nm.a0e (Nm.trim a)
  have h3b := Nm.a0e (Nm.trim b)
  have hca := Nm.U2 a
  have hcb := Nm.U2 b
  have htopb := Nm.a6b (Nm.trim b)
  have htopa := Nm.a6b (Nm.trim a)
  have fta := a0B a (by omega)
  have ftb := a0B b (by omega)
  rw [Nm.a6c] at hla hlb
  rw [<- hva, <- hvb]
  rw [<- hvb] at h0
  clear hva hvb
  generalize Nm.trim a = x at *
  generalize Nm.trim b = y at *
  have hy0 : y ≠ [] := fun h => by subst h; exact h0 rfl
  (repeat first | refine uA ?_ | (refine uK ?_ ?_; focus first | omega | trivial | (intros; simp_all <;> omega)) | simp (disch := omega) only [go_sem, Nat.reduceBEq, Nat.reduceAdd, Nat.reduceLeDiff, Int.reduceToNat, Int.reducePow, ww, w9] | (refine uB fta ?_ ?_; exact rfl) | (refine uB ftb ?_ ?_; exact rfl))
  (refine uJ rfl (fun hc => ?_) fun hc => ?_)
  · rw [a0d] at hc; exact absurd hc hy0
  (repeat first | refine uA ?_ | (refine uK ?_ ?_; focus first | omega | trivial | (intros; simp_all <;> omega)) | simp (disch := omega) only [go_sem, Nat.reduceBEq, Nat.reduceAdd, Nat.reduceLeDiff, Int.reduceToNat, Int.reducePow, ww, w9])
  (refine uJ rfl (fun hc => ?_) fun hc => ?_)
  · have hx7 := Nm.a0c (l := x) (k := 8) (by omega)
    have hy7 := Nm.a0c (l := y) (k := 8) (by omega)
    have e1 : Nm.val x % 18446744073709551616 = Nm.val x := Nat.mod_eq_of_lt (by omega)
    have e2 : Nm.val y % 18446744073709551616 = Nm.val y := Nat.mod_eq_of_lt (by omega)
    have fx := a1H x (by omega)
    have fy := a1H y (by omega)
    rw [e1] at fx
    rw [e2] at fy
    have hqb : Nm.val x / Nm.val y < 18446744073709551616 := Nat.lt_of_le_of_lt (Nat.div_le_self _ _) (by omega)
    have hrb : Nm.val x % Nm.val y < 18446744073709551616 := c1S (Nat.mod_lt _ (by omega)) (by omega)
    have hf := a0p _ hqb
    have hg := a0p _ hrb
    have hq : Int.tdiv (Nm.val x : Int) (Nm.val y : Int) = ((Nm.val x / Nm.val y : Nat) : Int) := rfl
    have hr : Int.tmod (Nm.val x : Int) (Nm.val y : Int) = ((Nm.val x % Nm.val y : Nat) : Int) := rfl
    generalize Nm.val x / Nm.val y = q at *
    generalize Nm.val x % Nm.val y = r at *
    (repeat first | refine uA ?_ | (refine uK ?_ ?_; focus first | omega | trivial | (intros; simp_all <;> omega)) | simp (disch := omega) only [go_sem, Nat.reduceBEq, Nat.reduceAdd, Nat.reduceLeDiff, Int.reduceToNat, Int.reducePow, ww, hq, hr] | (refine uB fx ?_ ?_; exact rfl) | (refine uB fy ?_ ?_; exact rfl) | (refine uB hf ?_ ?_; exact rfl) | (refine uB hg ?_ ?_; exact rfl))
    exact S.done (d9.out rfl (Imp.refl rfl) rfl)
  have hcn := b0r (Nm.val x) (Nm.val y)
  (repeat first | refine uA ?_ | (refine uK ?_ ?_; focus first | omega | trivial | (intros; simp_all <;> omega)) | simp (disch := omega) only [go_sem, Nat.reduceBEq, Nat.reduceAdd, Nat.reduceLeDiff, Int.reduceToNat, Int.reducePow, ww] | (refine uB (a8e x y (by omega) (by omega)) ?_ ?_; exact rfl))
  (refine uJ rfl (fun hc => ?_) fun hc => ?_)
  · have h1 := hcn.1 hc
    rw [Nat.div_eq_of_lt h1, Nat.mod_eq_of_lt h1, Nm.a1e, Nm.a1a hca]
    (repeat first | refine uA ?_ | (refine uK ?_ ?_; focus first | omega | trivial | (intros; simp_all <;> omega)) | simp (disch := omega) only [go_sem, Nat.reduceBEq, Nat.reduceAdd, Nat.reduceLeDiff, Int.reduceToNat, Int.reducePow, ww])
    exact S.done (d9.out rfl (Imp.refl rfl) rfl)
  have hge : Nm.val y <= Nm.val x := by
    rcases c1V (Nm.val x) (Nm.val y) with h | h
    · exact absurd (hcn.2 h) hc
    · exact h
  have fwx := a1K x (by omega)
  have fwy := (a1K y (by omega)).spec
  rw [<- hwa, <- hwb] at hge
  rw [<- hwb] at h0
  rw [<- hwa] at htopa
  rw [<- hwb] at htopb
  rw [<- hwa, <- hwb]
  clear hwa hwb hcn hc
  generalize Nm.H9 x = p at *
  generalize Nm.H9 y = q at *
  have hq0 : q ≠ [] := fun h => by subst h; exact h0 rfl
  have hql : 0 < q.length := List.length_pos_iff.2 hq0
  have hle : q.length <= p.length := by
    rcases c1V p.length q.length with h | h
    · exfalso
      have h2 := htopb hq0
      have h3 := Nm.J5 4294967296 h3a
      have h4 : 4294967296 ^ p.length <= 4294967296 ^ (q.length - 1) := c2c (by decide) (by omega)
      omega
    · exact h
  (repeat first | refine uA ?_ | (refine uK ?_ ?_; focus first | omega | trivial | (intros; simp_all <;> omega)) | simp (disch := omega) only [go_sem, Nat.reduceBEq, Nat.reduceAdd, Nat.reduceLeDiff, Int.reduceToNat, Int.reducePow, ww, q9] | refine l9.t (FNew.t fwx rfl) ?_ | (refine uB fwy ?_ ?_; exact rfl))
  clear fwx fwy fta ftb
  (refine uJ rfl (fun hc => ?_) fun hc => ?_)
  · obtain ⟨d, rfl⟩ : ∃ d, q = [d] := by
      match q, hc with
      | [d], _ => exact ⟨d, rfl⟩
      | [], h => simp at h
      | _ :: _ :: _, h => simp at h; omega
    have hd32 : d < 4294967296 := h3b d (by simp)
    have hwd : Nm.wv 4294967296 [d] = d := by simp [Nm.wv]
    rw [hwd] at h0 ⊢
    have hpl : p.length <= 68719476737 := by omega
    clear hge hle htopa htopb hla hlb hc
    (repeat first | refine uA ?_ | (refine uK ?_ ?_; focus first | omega | trivial | (intros; simp_all <;> omega)) | simp (disch := omega) only [go_sem, Nat.reduceBEq, Nat.reduceAdd, Nat.reduceLeDiff, Int.reduceToNat, Int.reducePow, ww, q9])
    refine S.loop (X := Nat × List Nat × Nat) (fun s => ⟨[(7, .rv 0), (8, .sl 1 (ws [d])), (9, .v (.int .u64 (s.2.2 : Int))), (10, ints ((s.1 : Int) - 1))], [.row 240 1 (ws s.2.1)]⟩) (fun s => s.1 <= p.length /\ Nm.a7U p d s.1 s.2.1 s.2.2) (fun s => s.1) (p.length, p, 0) ⟨c1I _, Nm.b1N h3a⟩ (by (repeat first | refine uA ?_ | (refine ⟨?_, ?_⟩; focus first | rfl | trivial | (simp [slot]; done)) | rfl | trivial | simp)) ?_
    rintro ⟨j, out, rest⟩ ⟨hj, hinv⟩
    simp only [ints] at hj hinv ⊢
    have hol := hinv.1
    (repeat first | refine uA ?_ | (refine uK ?_ ?_; focus first | omega | trivial | (intros; simp_all <;> omega)) | simp (disch := omega) only [go_sem, Nat.reduceBEq, Nat.reduceAdd, Nat.reduceLeDiff, Int.reduceToNat, Int.reducePow, ww])
    (refine uJ rfl (fun hc => ?_) fun hc => ?_)
    · obtain ⟨k, rfl⟩ : ∃ k, j = k + 1 := ⟨j - 1, by omega⟩
      rw [show (((k + 1 : Nat) : Int) - 1) = (k : Int) by omega]
      have hgp : p[k]? = some (p[k]'(by omega)) := c1x (by omega)
      have hgo : out[k]? = some (p[k]'(by omega)) := by rw [Nm.I5 hinv.2.2.1, hgp]
      have hp32 := h3a _ (c1N (show k < p.length by omega))
      obtain ⟨hs, hq32, hr32⟩ := Nm.b2e hinv (by omega) (by omega) hd32 hp32
      generalize p[k]'(by omega) = pk at *
      have hor := b0y rest pk hr32 hp32
      have hwd0 : (ws [d])[0]? = some (wd d) := rfl
      have hq : Int.tdiv ((rest * 4294967296 + pk : Nat) : Int) (d : Int) = (((rest * 4294967296 + pk) / d : Nat) : Int) := rfl
      have hr : Int.tmod ((rest * 4294967296 + pk : Nat) : Int) (d : Int) = (((rest * 4294967296 + pk) % d : Nat) : Int) := rfl
      generalize rest * 4294967296 + pk = s at *
      generalize s / d = sq at *
      generalize s % d = sr at *
      (repeat first | refine uA ?_ | (refine uK ?_ ?_; focus first | omega | trivial | (intros; simp_all <;> omega)) | simp (disch := omega) only [go_sem, Nat.reduceBEq, Nat.reduceAdd, Nat.reduceLeDiff, Int.reduceToNat, Int.reducePow, ww, q9, D5, hgo, hwd0, c1z, wd, hor, hq, hr, G7])
      refine S.next (x := (k + 1, out, rest)) (k, _, _) ⟨by simp only; omega, hs⟩ (by simp only; omega) (by (repeat first | refine uA ?_ | (refine ⟨?_, ?_⟩; focus first | rfl | trivial | (simp [slot]; done)) | rfl | trivial | simp))
    · have hj0 : j = 0 := by omega
      subst hj0
      obtain ⟨h1, h2, _, h4, h5⟩ := hinv
      rw [List.drop_zero] at h4 h5
      rw [List.drop_zero] at h4
      rw [<- h4, <- h5]
      have hrd : rest < d := by rw [h5]; exact Nat.mod_lt _ (by omega)
      have ft := a3y out (by omega) h2
      have hf := a0p rest (by omega)
      (repeat first | refine uA ?_ | (refine uK ?_ ?_; focus first | omega | trivial | (intros; simp_all <;> omega)) | simp (disch := omega) only [go_sem, Nat.reduceBEq, Nat.reduceAdd, Nat.reduceLeDiff, Int.reduceToNat, Int.reducePow, ww] | (refine uB hf ?_ ?_; exact rfl) | (refine uC ft ?_ ?_ ?_; exact rfl; focus (repeat' first | exact j5.nil | exact Imp.refl rfl | exact Imp.frz rfl rfl rfl | (refine Imp.M5 rfl rfl ?_ ?_; (focus ((try simp only [c1C]); omega)); (focus first | rfl | assumption)) | refine j5.cons ?_ ?_); done))
      exact S.done (d9.out rfl (Imp.refl rfl) rfl)
  · have hfl := b9A p q (by omega) h3a h3b hle (by omega) (htopb hq0)
    have hqx := Nm.J5 4294967296 h3a
    have hpw : 4294967296 ^ p.length = 4294967296 ^ (p.length + 1 - q.length) * 4294967296 ^ (q.length - 1) := by
      rw [<- Nat.pow_add]; congr 1; omega
    have hqq : Nm.wv 4294967296 p / Nm.wv 4294967296 q < 4294967296 ^ (p.length + 1 - q.length) := by
      rw [Nat.div_lt_iff_lt_mul (by omega)]
      rw [hpw] at hqx
      exact c1S hqx (Nat.mul_le_mul_left _ (htopb hq0))
    have hqy := Nm.J5 4294967296 h3b
    have hrr : Nm.wv 4294967296 p % Nm.wv 4294967296 q < 4294967296 ^ q.length := Nat.lt_trans (Nat.mod_lt _ (by omega)) hqy
    have ft1 := a3y _ (by rw [Nm.H6]; omega) (Nm.a0P (B := 4294967296) (by decide) (p.length + 1 - q.length) (Nm.wv 4294967296 p / Nm.wv 4294967296 q))
    have ft2 := a3y _ (by rw [Nm.H6]; omega) (Nm.a0P (B := 4294967296) (by decide) q.length (Nm.wv 4294967296 p % Nm.wv 4294967296 q))
    rw [Nm.U3 hqq] at ft1
    rw [Nm.U3 hrr] at ft2
    refine S.weaken (st' := ⟨[(7, .sl 1 (ws p)), (8, .sl 1 (ws q))], [.gone]⟩) (Ent.mk _ _ (a0o.cons (Imp.frz rfl rfl rfl) (a0o.cons (Imp.refl rfl) a0o.nil)) (by (repeat first | refine uA ?_ | (refine ⟨?_, ?_⟩; focus first | rfl | trivial | (simp [slot]; done)) | rfl | trivial | simp)) (c1H _)) ?_
    (repeat first | refine uA ?_ | (refine uK ?_ ?_; focus first | omega | trivial | (intros; simp_all <;> omega)) | simp (disch := omega) only [go_sem, Nat.reduceBEq, Nat.reduceAdd, Nat.reduceLeDiff, Int.reduceToNat, Int.reducePow, ww] | (refine uB hfl ?_ ?_; exact rfl) | (refine uB ft1 ?_ ?_; exact rfl) | (refine uB ft2 ?_ ?_; exact rfl))
    exact S.done (d9.out rfl (Imp.refl rfl) rfl)
end Go.Proofs.YtogfpjohjphngaaGreatDoor
namespace Go.Proofs
open Go.Shelf
def Tryz.a9Z : Go.Shelf.Ren := ⟨fun | 29 => 255 | n => n, fun | 22 => 189 | 3 => 3 | 4 => 4 | 25 => 192 | 54 => 305 | 0 => 0 | 5 => 5 | n => n, fun | 1 => 3 | n => n⟩
theorem Tryz.b6q : Go.Proofs.Lays7.n29 Tryz.prog Tryz.a9Z := {
 mixed := by kernel_rfl
 f29 := Tryz.func255.trans (congrArg some (by kernel_rfl))
 t0 := Tryz.underlying0
 a0 := Tryz.isAgg0
 z0 := Tryz.sizeOf0
 v0 := Tryz.zeroValue0
 i0 := by kernel_rfl
 t3 := Tryz.underlying3
 a3 := Tryz.isAgg3
 z3 := Tryz.sizeOf3
 v3 := Tryz.zeroValue3
 i3 := by kernel_rfl
 t4 := Tryz.underlying4
 a4 := Tryz.isAgg4
 z4 := Tryz.sizeOf4
 v4 := Tryz.zeroValue4
 i4 := by kernel_rfl
 t5 := Tryz.underlying5
 a5 := Tryz.isAgg5
 z5 := Tryz.sizeOf5
 v5 := Tryz.zeroValue5
 i5 := by kernel_rfl
 t22 := Tryz.underlying189
 a22 := Tryz.isAgg189
 z22 := Tryz.sizeOf189
 v22 := Tryz.zeroValue189
 i22 := by kernel_rfl
 t25 := Tryz.underlying192
 a25 := Tryz.isAgg192
 z25 := Tryz.sizeOf192
 v25 := Tryz.zeroValue192
 i25 := by kernel_rfl
 t54 := Tryz.underlying305
 a54 := Tryz.isAgg305
 z54 := Tryz.sizeOf305
 g1 := by kernel_rfl }
open Go.RowKit in
theorem Tryz.bits_TrailingZeros64 (x : Nat) (hx : x < 18446744073709551616) (w : World) (hT : x ≠ 0 -> TabAt 3 Lib.deBruijn64tab w) :
  Calls Tryz.prog 255 #[.int .u64 x] w fun e w' => e = .returned (.int .i64 (Lib.ctz 64 x)) /\ w' = w := Any7.bits_TrailingZeros64 Tryz.b6q x hx w hT
def Tryz.b2j : Go.Shelf.Ren := ⟨fun | 160 => 82 | 232 => 191 | 231 => 190 | 227 => 192 | 234 => 194 | 233 => 193 | 236 => 196 | 235 => 195 | 228 => 228 | 271 => 231 | 151 => 230 | 197 => 229 | 120 => 250 | 152 => 249 | 260 => 248 | 137 => 259 | 119 => 260 | 224 => 261 | 225 => 262 | 217 => 264 | 266 => 265 | n => n, fun | 9 => 9 | 4 => 4 | 3 => 3 | 5 => 5 | 117 => 246 | 116 => 245 | 0 => 0 | 124 => 249 | 21 => 21 | 105 => 275 | 46 => 192 | 119 => 298 | 139 => 301 | 138 => 300 | n => n, fun | 3 => 1 | 4 => 2 | n => n⟩
theorem Tryz.b9m : Go.Proofs.Lays.n160 Tryz.prog Tryz.b2j := {
 mixed := by kernel_rfl
 f119 := Tryz.func260.trans (congrArg some (by kernel_rfl))
 f120 := Tryz.func250.trans (congrArg some (by kernel_rfl))
 f137 := Tryz.func259.trans (congrArg some (by kernel_rfl))
 f151 := Tryz.func230.trans (congrArg some (by kernel_rfl))
 f152 := Tryz.func249.trans (congrArg some (by kernel_rfl))
 f160 := Tryz.func82.trans (congrArg some (by kernel_rfl))
 f197 := Tryz.func229.trans (congrArg some (by kernel_rfl))
 f217 := Tryz.func264.trans (congrArg some (by kernel_rfl))
 f224 := Tryz.func261.trans (congrArg some (by kernel_rfl))
 f225 := Tryz.func262.trans (congrArg some (by kernel_rfl))
 f227 := Tryz.func192.trans (congrArg some (by kernel_rfl))
 f228 := Tryz.func228.trans (congrArg some (by kernel_rfl))
 f231 := Tryz.func190.trans (congrArg some (by kernel_rfl))
 f232 := Tryz.func191.trans (congrArg some (by kernel_rfl))
 f233 := Tryz.func193.trans (congrArg some (by kernel_rfl))
 f234 := Tryz.func194.trans (congrArg some (by kernel_rfl))
 f235 := Tryz.func195.trans (congrArg some (by kernel_rfl))
 f236 := Tryz.func196.trans (congrArg some (by kernel_rfl))
 f260 := Tryz.func248.trans (congrArg some (by kernel_rfl))
 f266 := Tryz.func265.trans (congrArg some (by kernel_rfl))
 f271 := Tryz.func231.trans (congrArg some (by kernel_rfl))
 t0 := Tryz.underlying0
 a0 := Tryz.isAgg0
 z0 := Tryz.sizeOf0
 v0 := Tryz.zeroValue0
 t3 := Tryz.underlying3
 a3 := Tryz.isAgg3
 z3 := Tryz.sizeOf3
 v3 := Tryz.zeroValue3
 t4 := Tryz.underlying4
 a4 := Tryz.isAgg4
 z4 := Tryz.sizeOf4
 v4 := Tryz.zeroValue4
 t5 := Tryz.underlying5
 a5 := Tryz.isAgg5
 z5 := Tryz.sizeOf5
 v5 := Tryz.zeroValue5
 t9 := Tryz.underlying9
 a9 := Tryz.isAgg9
 z9 := Tryz.sizeOf9
 v9 := Tryz.zeroValue9
 t21 := Tryz.underlying21
 a21 := Tryz.isAgg21
 z21 := Tryz.sizeOf21
 v21 := Tryz.zeroValue21
 t46 := Tryz.underlying192
 a46 := Tryz.isAgg192
 z46 := Tryz.sizeOf192
 v46 := Tryz.zeroValue192
 t105 := Tryz.underlying275
 a105 := Tryz.isAgg275
 z105 := Tryz.sizeOf275
 v105 := Tryz.zeroValue275
 t116 := Tryz.underlying245
 a116 := Tryz.isAgg245
 z116 := Tryz.sizeOf245
 t117 := Tryz.underlying246
 a117 := Tryz.isAgg246
 z117 := Tryz.sizeOf246
 v117 := Tryz.zeroValue246
 t119 := Tryz.underlying298
 a119 := Tryz.isAgg298
 z119 := Tryz.sizeOf298
 t124 := Tryz.underlying249
 a124 := Tryz.isAgg249
 z124 := Tryz.sizeOf249
 v124 := Tryz.zeroValue249
 t138 := Tryz.underlying300
 a138 := Tryz.isAgg300
 z138 := Tryz.sizeOf300
 v138 := Tryz.zeroValue300
 t139 := Tryz.underlying301
 a139 := Tryz.isAgg301
 z139 := Tryz.sizeOf301
 v139 := Tryz.zeroValue301
 g3 := by kernel_rfl
 g4 := by kernel_rfl }
end Go.Proofs
namespace Go.Proofs.YtogfpjohjphngaaGreatDoor
open Go Go.RowKit Eng
def Wz (w : World) : Prop := TabAt 3 Lib.deBruijn64tab w
abbrev FZ (f : Nat) (args : List C) (r : C) : Prop := W9 Tryz.prog Wz f args r
namespace Eng
def Tz (E : Ctx) : Prop := Wz E.w0 /\ ¬ E.own0 3
theorem b7K {w : World} (h : Wz w) : 3 < w.heap.size := by
 have := h 0 (by decide)
 exact block_lt_of_cell this
theorem Tz.at {E : Ctx} (h : Tz E) {w : World} (hF : Frm E.own0 E.w0 w) : Wz w := by
 intro j hj
 rw [<- h.1 j hj]
 exact World.cell?_of_block (hF.block _ (b7K h.1) h.2)
section
variable {E : Ctx} {rs : List Res} {f : Nat} {args args' : List C} {r : C}
theorem P6.c0w {p : Bool} (ht : Tz E) (hs : p = true -> W9 E.P Wz f args' r) (hi : p = true -> j5 rs rs args args') (hcl : p = true -> C.clL args' = true) : P6 E rs p f args r := by
 intro hp av ν w vs hR hav hF hD
 have hlt : ∀ b, OO av rs ν b -> b < w.heap.size := fun b hb => by
  rcases hb with hb | hb
  ·exact hR.av b hb
  ·exact (hR.low b hb).1
 have hD' := (hi hp).den hR (Cut.of hR (a2C rs)) hD
 have et : ν.take rs.length = ν := by rw [<- hR.len]; exact c1U
 rw [et] at hD'
 refine (hs hp (OO av rs ν) w vs (ht.at hF) hlt (hD'.fz (hcl hp))).mono ?_
 rintro e w' ⟨y, rfl, h1, h2⟩
 exact ⟨y, rfl, h1, h2.den ν⟩
theorem P6.c0O {p : Bool} (ht : Tz E) (hs : p = true -> W9 E.P Wz f args' r) (hi : p = true -> j5 rs [] args args') (hcl : p = true -> C.clL args' = true) (hr : r.flat = true) : P6 E rs p f args r := by
 intro hp av ν w vs hR hav hF hD
 have hC : Cut av rs [] ν := Cut.of hR (by simp [R3])
 have hD' := (hi hp).den hR hC hD
 have hlt : ∀ b, OO av [] (ν.take ([] : List Res).length) b -> b < w.heap.size := fun b hb => by
  rcases hC.sub b hb with hb | hb
  ·exact hR.av b hb
  ·exact (hR.low b hb).1
 refine (hs hp _ w vs (ht.at hF) hlt (hD'.fz (hcl hp))).mono ?_
 rintro e w' ⟨y, rfl, h1, h2⟩
 exact ⟨y, rfl, h1, Fz.flat hr h2⟩
variable {g q : Prop} {p : Bool} {a a' : List C}
theorem uD {P : Program} (hs : W9 P Wz f a' r) [h : By g E rs p f a r q] (ht : Tz E) (e : (E.P, a, (C.bdL rs.length a && C.clL a)) = (P, a', true)) (x : q) : g := by
 injection e with e1 e2
 injection e2 with e2 e3
 rw [c1J] at e3
 subst e1 e2
 exact h.go (P6.c0w ht (fun _ => hs) (fun _ => j5.refl e3.1) (fun _ => e3.2)) x
theorem uE {P : Program} (hs : W9 P Wz f a' r) [h : By g E rs p f a r q] (ht : Tz E) (e : (E.P, C.clL a', r.flat) = (P, true, true)) (hi : j5 rs [] a a') (x : q) : g := by
 injection e with e1 e2
 injection e2 with e2 e3
 subst e1
 exact h.go (P6.c0O ht (fun _ => hs) (fun _ => hi) (fun _ => e2) e3) x
theorem uG {P : Program} (hs : W9 P Wz f a' r) {st : St} {ok : Prop} {d : Option Nat} {K : St -> Prop} (x : ok /\ KPg st false d K r) : a0s E st false f a ok d K :=
 .inr ⟨x.1, .inr (.inr ⟨r, (fun h => absurd h (by decide)), x.2⟩)⟩
end
theorem tz {P : Program} {eff : Nat -> Bool} {N : Nat} {w : World} {O : Nat -> Prop} (hw : Wz w) : Tz ⟨P, eff, N, w, fun _ => False, O, [], []⟩ := ⟨hw, fun h => h⟩
end Eng
theorem b9U {x : Nat} (h0 : x ≠ 0) (h : x < 18446744073709551616) : Lib.ctz 64 x = Nm.v2 x := by
 unfold Lib.ctz
 rw [if_neg h0]
 obtain ⟨m, h1, _⟩ := Lib.ctzFrom_spec 64 x (by omega) h
 exact (Nm.b7H h1 (by omega)).symm
theorem c1v (x : Nat) (h0 : x ≠ 0) (h : x < 18446744073709551616) : FZ 255 [.v (.int .u64 (x : Int))] (.v (.int .i64 (Nm.v2 x : Int))) := by
 intro O w vs hw hO hA
 simp only [FzL, Fz] at hA
 obtain ⟨y, ys, rfl, rfl, rfl⟩ := hA
 refine (Tryz.bits_TrailingZeros64 x h w (fun _ => hw)).mono ?_
 rintro e w' ⟨rfl, rfl⟩
 exact ⟨_, rfl, Below.refl _ _, by simp only [Fz, b9U h0 h]⟩
set_option maxRecDepth 10000
set_option maxHeartbeats 4000000
def ls (l : List Nat) : List (List C) := l.map lm
theorem u7 (l : List Nat) : (ls l).length = l.length := by simp [ls]
theorem G9 (l : List Nat) (i : Nat) : (ls l)[i]? = (l[i]?).map lm := by simp [ls]
theorem V9 (l : List Nat) (i v : Nat) : (ls l).set i [.v (.int .u64 (v : Int))] = ls (l.set i v) := by
 simp only [ls, List.map_set, lm]
theorem b7k (n : Nat) : List.replicate n [C.v (.int .u64 0)] = ls (List.replicate n 0) := by simp [ls, lm]
theorem b7E (n : Nat) (h : n <= 1099511627776) : IntKind.i64.wrap (((n : Int) + 7).tdiv 8) = (((n + 7) / 8 : Nat) : Int) := by
 have : ((n : Int) + 7).tdiv 8 = (((n + 7) / 8 : Nat) : Int) := rfl
 rw [this, Eng.wrap_i64 (by omega)]
theorem b3Q (i : Nat) (h : i <= 1099511627776) : IntKind.i64.wrap ((i : Int).tdiv 8) = ((i / 8 : Nat) : Int) := by
 have : (i : Int).tdiv 8 = ((i / 8 : Nat) : Int) := rfl
 rw [this, Eng.wrap_i64 (by omega)]
theorem a7z (i : Nat) : (i : Int).tmod 8 = ((i % 8 : Nat) : Int) := rfl
theorem a9y (o : Nat) (b : UInt8) (i : Nat) (ho : o < 18446744073709551616) (hb : b.toNat * 2 ^ (8 * (i % 8)) < 18446744073709551616) :
  bits .or .u64 (o : Int) (IntKind.u64.wrap (IntKind.u64.wrap ((b.toNat : Nat) : Int) * 2 ^ min (((i % 8 : Nat) : Int) * 8).toNat 64)) = ((o ||| b.toNat * 2 ^ (8 * (i % 8)) : Nat) : Int) := by
 have h0 := b.toNat_lt
 rw [Eng.wrap_u64 (n := ((b.toNat : Nat) : Int)) (by omega), show min (((i % 8 : Nat) : Int) * 8).toNat 64 = 8 * (i % 8) by omega]
 have e : ((b.toNat : Nat) : Int) * 2 ^ (8 * (i % 8)) = ((b.toNat * 2 ^ (8 * (i % 8)) : Nat) : Int) := by rw [Int.natCast_mul, Int.natCast_pow]; rfl
 rw [e, Eng.wrap_u64 (by omega), a7H _ _ ho hb]
namespace Nm
def K4 (l : List Nat) : Prop := ∀ w ∈ l, w < 18446744073709551616
theorem K4.take {l : List Nat} (h : K4 l) (n : Nat) : K4 (l.take n) := fun w hw => h w (List.mem_of_mem_take hw)
theorem K4.drop {l : List Nat} (h : K4 l) (n : Nat) : K4 (l.drop n) := fun w hw => h w (List.mem_of_mem_drop hw)
def O7 (l : List UInt8) : List Nat := dig 18446744073709551616 ((l.length + 7) / 8) (val l)
theorem a6O (l : List UInt8) : (O7 l).length = (l.length + 7) / 8 := H6 _ _ _
theorem a7J (l : List UInt8) : K4 (O7 l) := a0P (by decide) _ _
theorem a8j (l : List UInt8) : wv 18446744073709551616 (O7 l) = val l := U3 (by
 refine c1S (Y4 l) ?_
 rw [show (18446744073709551616 : Nat) = 256 ^ 8 by decide, <- Nat.pow_mul]
 exact c2c (by decide) (by omega))
theorem a8q {l : List UInt8} {out : List Nat} (h : a2h l l.length out) : out = O7 l := by
 obtain ⟨h1, h2, h3, _⟩ := h
 exact U8 (by decide) h2 h1 (by rw [h3, Nat.sub_self, List.drop_zero])
end Nm
theorem b2V (m : List UInt8) (hm : m.length <= 1099511627776) : FNew Tryz.prog 238 [sb m] 189 1 (ls (Nm.O7 m)) := by
 refine FNew.of (eff := eff) Tryz.func238 (by cbv) (by exact c1Q rfl) fun w O => ?_
 simp only [j6, sb]
 (repeat first | refine uA ?_ | (refine uK ?_ ?_; focus first | omega | trivial | (intro h; rw [h]; rfl) | (intro h h2; rw [h, h2]; rfl) | (intro h; (try simp at h); omega) | (intros; simp_all <;> omega)) | simp only [go_sem, Nat.reduceBEq, Nat.reduceAdd, Nat.reduceLeDiff, Int.reduceToNat, Int.reducePow, w9, b7E m.length hm] | simp (disch := omega) only [ww, w9, b7E m.length hm])
 refine S.loop (X := Nat × List Nat) (fun x => ⟨[(0, sb m), (3, .rv 0), (11, ints m.length), (12, ints x.1)], [.row 189 1 (ls x.2)]⟩) (fun x => x.1 <= m.length /\ Nm.a2h m x.1 x.2) (fun x => m.length - x.1) (0, List.replicate ((m.length + 7) / 8) 0) ⟨c1H _, Nm.a8c m⟩ (by simp only [<- b7k]; exact (by (repeat first | refine uA ?_ | (refine ⟨?_, ?_⟩; focus first | rfl | trivial | (simp [slot]; done)) | rfl | trivial | simp))) ?_
 rintro ⟨i, out⟩ ⟨hi, hinv⟩
 simp only [sb, ints] at hi hinv ⊢
 (repeat first | refine uA ?_ | (refine uK ?_ ?_; focus first | omega | trivial | (intro h; rw [h]; rfl) | (intro h h2; rw [h, h2]; rfl) | (intro h; (try simp at h); omega) | (intros; simp_all <;> omega)) | simp only [go_sem, Nat.reduceBEq, Nat.reduceAdd, Nat.reduceLeDiff, Int.reduceToNat, Int.reducePow] | simp (disch := omega) only [ww])
 (refine uJ rfl (fun hc => ?_) fun hc => ?_)
 ·have hi' : i < m.length := by omega
  have hol := hinv.1
  have hj : i / 8 < out.length := by omega
  obtain ⟨hst, hlt, hbl⟩ := Nm.a7M hinv hi' hj
  have hgo : out[i / 8]? = some out[i / 8] := c1x hj
  have ho32 := hinv.2.1 _ (c1N hj)
  have hgm : m.getD ((m.length : Int) - 1 - (i : Int)).toNat 0 = m[m.length - 1 - i] := by
   rw [show ((m.length : Int) - 1 - (i : Int)).toNat = m.length - 1 - i by omega, c1O, c1x (by omega)]
   rfl
  (repeat first | refine uA ?_ | (refine uK ?_ ?_; focus first | omega | trivial | (intro h; rw [h]; rfl) | (intro h h2; rw [h, h2]; rfl) | (intro h; (try simp at h); omega) | (intros; simp_all <;> omega)) | simp only [go_sem, Nat.reduceBEq, Nat.reduceAdd, Nat.reduceLeDiff, Int.reduceToNat, Int.reducePow, w9, O8, u7, G9, hgo, c1z, hgm, b3Q i (by omega), a7z, lm, a9y _ _ _ ho32 hbl, V9] | simp (disch := omega) only [ww, w9, O8, u7, G9, hgo, c1z, hgm, b3Q i (by omega), a7z, lm, a9y _ _ _ ho32 hbl, V9])
  refine S.next (x := (i, out)) (i + 1, _) ⟨hi', hst⟩ (by simp only; omega) (by (repeat first | refine uA ?_ | (refine ⟨?_, ?_⟩; focus first | rfl | trivial | (simp [slot]; done)) | rfl | trivial | simp))
 ·have hi' : i = m.length := by omega
  subst hi'
  (repeat first | refine uA ?_ | (refine uK ?_ ?_; focus first | omega | trivial | (intro h; rw [h]; rfl) | (intro h h2; rw [h, h2]; rfl) | (intro h; (try simp at h); omega) | (intros; simp_all <;> omega)) | simp only [go_sem, Nat.reduceBEq, Nat.reduceAdd, Nat.reduceLeDiff, Int.reduceToNat, Int.reducePow] | simp (disch := omega) only [ww])
  rw [<- Nm.a8q hinv]
  exact S.done (d9.new rfl rfl rfl)
theorem b1q (x y : Nat) (hx : x < 18446744073709551616) (hy : y < 18446744073709551616) : u6 Tryz.prog 221 [.v (.int .u64 (x : Int)), .v (.int .u64 (y : Int))] (.v (.int .u64 (Nat.gcd x y : Int))) := by
 refine kS Tryz.func221 (by cbv) (by rfl) fun w O => ?_
 simp only [j6]
 (repeat first | refine uA ?_ | (refine uK ?_ ?_; focus first | omega | trivial | (intro h; rw [h]; rfl) | (intro h h2; rw [h, h2]; rfl) | (intro h; (try simp at h); omega) | (intros; simp_all <;> omega)) | simp only [go_sem, Nat.reduceBEq, Nat.reduceAdd, Nat.reduceLeDiff, Int.reduceToNat, Int.reducePow] | simp (disch := omega) only [ww])
 refine S.loop (X := Nat × Nat) (fun s => ⟨[(0, .v (.int .u64 (s.1 : Int))), (1, .v (.int .u64 (s.2 : Int)))], []⟩) (fun s => Nat.gcd s.1 s.2 = Nat.gcd x y /\ s.2 < 18446744073709551616) (fun s => s.2) (x, y) ⟨rfl, hy⟩ (by (repeat first | refine uA ?_ | (refine ⟨?_, ?_⟩; focus first | rfl | trivial | (simp [slot]; done)) | rfl | trivial | simp)) ?_
 rintro ⟨a, b⟩ ⟨h1, h2⟩
 simp only at h1 h2 ⊢
 (repeat first | refine uA ?_ | (refine uK ?_ ?_; focus first | omega | trivial | (intro h; rw [h]; rfl) | (intro h h2; rw [h, h2]; rfl) | (intro h; (try simp at h); omega) | (intros; simp_all <;> omega)) | simp only [go_sem, Nat.reduceBEq, Nat.reduceAdd, Nat.reduceLeDiff, Int.reduceToNat, Int.reducePow] | simp (disch := omega) only [ww])
 (refine uJ rfl (fun hc => ?_) fun hc => ?_)
 ·have hr : Int.tmod (a : Int) (b : Int) = ((a % b : Nat) : Int) := rfl
  have hlt : a % b < b := Nat.mod_lt _ (by omega)
  (repeat first | refine uA ?_ | (refine uK ?_ ?_; focus first | omega | trivial | (intro h; rw [h]; rfl) | (intro h h2; rw [h, h2]; rfl) | (intro h; (try simp at h); omega) | (intros; simp_all <;> omega)) | simp only [go_sem, Nat.reduceBEq, Nat.reduceAdd, Nat.reduceLeDiff, Int.reduceToNat, Int.reducePow, hr] | simp (disch := omega) only [ww, hr])
  refine S.next (x := (a, b)) (b, a % b) ⟨by rw [<- h1]; simp only; rw [Nat.gcd_comm b, <- Nat.gcd_rec, Nat.gcd_comm], by simp only; omega⟩ (by simp only; omega) (by (repeat first | refine uA ?_ | (refine ⟨?_, ?_⟩; focus first | rfl | trivial | (simp [slot]; done)) | rfl | trivial | simp))
 ·have hb : b = 0 := by omega
  subst hb
  rw [Nat.gcd_zero_right] at h1
  rw [<- h1]
  (repeat first | refine uA ?_ | (refine uK ?_ ?_; focus first | omega | trivial | (intro h; rw [h]; rfl) | (intro h h2; rw [h, h2]; rfl) | (intro h; (try simp at h); omega) | (intros; simp_all <;> omega)) | simp only [go_sem, Nat.reduceBEq, Nat.reduceAdd, Nat.reduceLeDiff, Int.reduceToNat, Int.reducePow] | simp (disch := omega) only [ww])
  exact S.done (d9.out rfl (Imp.refl rfl) rfl)
theorem b9e (x y : List Nat) (hxl : x.length <= 274877906944) (hyl : y.length <= 274877906944) (hx : Nm.K4 x) (hy : Nm.K4 y) (hxc : ∀ h : x ≠ [], x.getLast h ≠ 0) (hyc : ∀ h : y ≠ [], y.getLast h ≠ 0) :
    u6 Tryz.prog 241 [.sl 1 (ls x), .sl 1 (ls y)] (.v (.bool (decide (Nm.wv 18446744073709551616 x < Nm.wv 18446744073709551616 y)))) := by
  have top : ∀ {a b : List Nat}, Nm.K4 a -> (∀ h : b ≠ [], b.getLast h ≠ 0) -> a.length < b.length -> Nm.wv 18446744073709551616 a < Nm.wv 18446744073709551616 b := by
    intro a b ha hb hl
    have hne : b ≠ [] := fun h => by subst h; simp at hl
    have h1 := Nm.b0J (B := 18446744073709551616) (l := b.dropLast) (hb hne)
    rw [List.dropLast_concat_getLast hne, List.length_dropLast] at h1
    have h2 := Nm.J5 18446744073709551616 ha
    have h3 : 18446744073709551616 ^ a.length <= 18446744073709551616 ^ (b.length - 1) := c2c (by decide) (by omega)
    omega
  refine kS Tryz.func241 (by cbv) (by rfl) fun w O => ?_
  simp only [j6]
  (repeat first | refine uA ?_ | (refine uK ?_ ?_; focus first | omega | trivial | (intro h; rw [h]; rfl) | (intro h h2; rw [h, h2]; rfl) | (intro h; (try simp at h); omega) | (intros; simp_all <;> omega)) | simp only [go_sem, Nat.reduceBEq, Nat.reduceAdd, Nat.reduceLeDiff, Int.reduceToNat, Int.reducePow, u7] | simp (disch := omega) only [ww, u7])
  (refine uJ rfl (fun hc => ?_) fun hc => ?_)
  · have he : decide (Nm.wv 18446744073709551616 x < Nm.wv 18446744073709551616 y) = decide ((x.length : Int) < (y.length : Int)) := by
      rw [decide_eq_decide]
      constructor
      · intro h
        rcases Nat.lt_trichotomy x.length y.length with h1 | h1 | h1
        · omega
        · omega
        · have := top hy hxc h1; omega
      · intro h; exact top hx hyc (by omega)
    rw [he]
    (repeat first | refine uA ?_ | (refine uK ?_ ?_; focus first | omega | trivial | (intro h; rw [h]; rfl) | (intro h h2; rw [h, h2]; rfl) | (intro h; (try simp at h); omega) | (intros; simp_all <;> omega)) | simp only [go_sem, Nat.reduceBEq, Nat.reduceAdd, Nat.reduceLeDiff, Int.reduceToNat, Int.reducePow, u7] | simp (disch := omega) only [ww, u7])
    exact S.done (d9.out rfl (Imp.refl rfl) rfl)
  · have hl : x.length = y.length := by omega
    (repeat first | refine uA ?_ | (refine uK ?_ ?_; focus first | omega | trivial | (intro h; rw [h]; rfl) | (intro h h2; rw [h, h2]; rfl) | (intro h; (try simp at h); omega) | (intros; simp_all <;> omega)) | simp only [go_sem, Nat.reduceBEq, Nat.reduceAdd, Nat.reduceLeDiff, Int.reduceToNat, Int.reducePow, u7] | simp (disch := omega) only [ww, u7])
    refine S.loop (X := Nat) (fun j => ⟨[(0, .sl 1 (ls x)), (1, .sl 1 (ls y)), (5, ints ((j : Int) - 1))], []⟩) (fun j => j <= x.length /\ x.drop j = y.drop j) (fun j => j) x.length ⟨c1I _, by rw [List.drop_of_length_le (c1I _), List.drop_of_length_le (by omega)]⟩ (by (repeat first | refine uA ?_ | (refine ⟨?_, ?_⟩; focus first | rfl | trivial | (simp [slot]; done)) | rfl | trivial | simp)) ?_
    rintro j ⟨hj, hd⟩
    simp only [ints]
    (repeat first | refine uA ?_ | (refine uK ?_ ?_; focus first | omega | trivial | (intro h; rw [h]; rfl) | (intro h h2; rw [h, h2]; rfl) | (intro h; (try simp at h); omega) | (intros; simp_all <;> omega)) | simp only [go_sem, Nat.reduceBEq, Nat.reduceAdd, Nat.reduceLeDiff, Int.reduceToNat, Int.reducePow] | simp (disch := omega) only [ww])
    (refine uJ rfl (fun hc => ?_) fun hc => ?_)
    · obtain ⟨k, rfl⟩ : ∃ k, j = k + 1 := ⟨j - 1, by omega⟩
      rw [show (((k + 1 : Nat) : Int) - 1) = (k : Int) by omega]
      have hgx : x[k]? = some (x[k]'(by omega)) := c1x (by omega)
      have hgy : y[k]? = some (y[k]'(by omega)) := c1x (by omega)
      have hsx := Nm.a2n 18446744073709551616 x k (by omega)
      have hsy := Nm.a2n 18446744073709551616 y k (by omega)
      have hdx : x.drop k = x[k]'(by omega) :: x.drop (k + 1) := List.drop_eq_getElem_cons (by omega)
      have hdy : y.drop k = y[k]'(by omega) :: y.drop (k + 1) := List.drop_eq_getElem_cons (by omega)
      generalize x[k]'(by omega) = xk at *
      generalize y[k]'(by omega) = yk at *
      rw [hdx] at hsx
      rw [hdy, <- hd] at hsy
      simp only [Nm.wv] at hsx hsy
      generalize Nm.wv 18446744073709551616 (x.drop (k + 1)) = T at *
      have hlx := Nm.J5 18446744073709551616 (hx.take k)
      have hly := Nm.J5 18446744073709551616 (hy.take k)
      rw [c1M, Nat.min_eq_left (by omega)] at hlx hly
      rw [Nat.mul_add] at hsx hsy
      (repeat first | refine uA ?_ | (refine uK ?_ ?_; focus first | omega | trivial | (intro h; rw [h]; rfl) | (intro h h2; rw [h, h2]; rfl) | (intro h; (try simp at h); omega) | (intros; simp_all <;> omega)) | simp only [go_sem, Nat.reduceBEq, Nat.reduceAdd, Nat.reduceLeDiff, Int.reduceToNat, Int.reducePow, u7, G9, hgx, hgy, c1z, lm] | simp (disch := omega) only [ww, u7, G9, hgx, hgy, c1z, lm])
      (refine uJ rfl (fun hc => ?_) fun hc => ?_)
      · have he : decide (Nm.wv 18446744073709551616 x < Nm.wv 18446744073709551616 y) = decide ((xk : Int) < (yk : Int)) := by
          rw [decide_eq_decide]
          rcases Nat.lt_trichotomy xk yk with h | h | h
          · have := Nat.mul_le_mul_left (18446744073709551616 ^ k) h
            rw [Nat.mul_succ] at this
            omega
          · omega
          · have := Nat.mul_le_mul_left (18446744073709551616 ^ k) h
            rw [Nat.mul_succ] at this
            omega
        rw [he]
        (repeat first | refine uA ?_ | (refine uK ?_ ?_; focus first | omega | trivial | (intro h; rw [h]; rfl) | (intro h h2; rw [h, h2]; rfl) | (intro h; (try simp at h); omega) | (intros; simp_all <;> omega)) | simp only [go_sem, Nat.reduceBEq, Nat.reduceAdd, Nat.reduceLeDiff, Int.reduceToNat, Int.reducePow, u7, G9, hgx, hgy, c1z, lm] | simp (disch := omega) only [ww, u7, G9, hgx, hgy, c1z, lm])
        exact S.done (d9.out rfl (Imp.refl rfl) rfl)
      · have : xk = yk := by omega
        (repeat first | refine uA ?_ | (refine uK ?_ ?_; focus first | omega | trivial | (intro h; rw [h]; rfl) | (intro h h2; rw [h, h2]; rfl) | (intro h; (try simp at h); omega) | (intros; simp_all <;> omega)) | simp only [go_sem, Nat.reduceBEq, Nat.reduceAdd, Nat.reduceLeDiff, Int.reduceToNat, Int.reducePow] | simp (disch := omega) only [ww])
        refine S.next (x := k + 1) k ⟨by omega, by rw [hdx, hdy, this, hd]⟩ (by omega) (by (repeat first | refine uA ?_ | (refine ⟨?_, ?_⟩; focus first | rfl | trivial | (simp [slot]; done)) | rfl | trivial | simp))
    · have hj0 : j = 0 := by omega
      subst hj0
      rw [List.drop_zero, List.drop_zero] at hd
      rw [hd]
      have he : decide (Nm.wv 18446744073709551616 y < Nm.wv 18446744073709551616 y) = false := by simp
      rw [he]
      (repeat first | refine uA ?_ | (refine uK ?_ ?_; focus first | omega | trivial | (intro h; rw [h]; rfl) | (intro h h2; rw [h, h2]; rfl) | (intro h; (try simp at h); omega) | (intros; simp_all <;> omega)) | simp only [go_sem, Nat.reduceBEq, Nat.reduceAdd, Nat.reduceLeDiff, Int.reduceToNat, Int.reducePow] | simp (disch := omega) only [ww])
      exact S.done (d9.out rfl (Imp.refl rfl) rfl)
theorem b8K {x n : Nat} {T : Nat} (h0 : x ≠ 0) (h : x < 18446744073709551616) : Nm.v2 (18446744073709551616 ^ n * (x + 18446744073709551616 * T)) = 64 * n + Nm.v2 x := by
 obtain ⟨q, h1, h2⟩ := Nm.a2m h0
 have hk : Nm.v2 x < 64 := by
  rcases c1V (Nm.v2 x) 64 with h3 | h3
  ·exact h3
  ·exfalso
   have h4 : 2 ^ 64 <= 2 ^ Nm.v2 x := c2c (by decide) h3
   have h5 : 2 ^ Nm.v2 x <= 2 ^ Nm.v2 x * q := Nat.le_mul_of_pos_right _ (by omega)
   omega
 refine Nm.b7H (q := q + 2 ^ (64 - Nm.v2 x) * T) ?_ ?_
 ·have e1 : (18446744073709551616 : Nat) = 2 ^ Nm.v2 x * 2 ^ (64 - Nm.v2 x) := by rw [<- Nat.pow_add, show Nm.v2 x + (64 - Nm.v2 x) = 64 by omega]
  have e2 : (18446744073709551616 : Nat) ^ n = 2 ^ (64 * n) := by rw [Nat.pow_mul]
  rw [e2, Nat.pow_add, c2f]
  congr 1
  conv => lhs; rw [h1]
  rw [Nat.mul_add, <- c2f (2 ^ Nm.v2 x), <- e1]
 ·have e3 : 2 ^ (64 - Nm.v2 x) = 2 * 2 ^ (64 - Nm.v2 x - 1) := by rw [<- Nat.pow_succ']; congr 1; omega
  rw [e3, c2f]; omega
theorem a6u (x : List Nat) (hxl : x.length <= 274877906944) (hx : Nm.K4 x) (h0 : Nm.wv 18446744073709551616 x ≠ 0) : FZ 239 [.sl 1 (ls x)] (ints (Nm.v2 (Nm.wv 18446744073709551616 x))) := by
 refine kW Tryz.func239 (by cbv) (by rfl) fun w O hw => ?_
 simp only [j6, ints]
 (repeat first | refine uA ?_ | (refine uK ?_ ?_; focus first | omega | trivial | (intro h; rw [h]; rfl) | (intro h h2; rw [h, h2]; rfl) | (intro h; (try simp at h); omega) | (intros; simp_all <;> omega)) | simp only [go_sem, Nat.reduceBEq, Nat.reduceAdd, Nat.reduceLeDiff, Int.reduceToNat, Int.reducePow] | simp (disch := omega) only [ww])
 refine S.loop (X := Nat) (fun n => ⟨[(0, .sl 1 (ls x)), (3, ints n)], []⟩) (fun n => n <= x.length /\ Nm.wv 18446744073709551616 x = 18446744073709551616 ^ n * Nm.wv 18446744073709551616 (x.drop n)) (fun n => x.length - n) 0 ⟨c1H _, by simp⟩ (by (repeat first | refine uA ?_ | (refine ⟨?_, ?_⟩; focus first | rfl | trivial | (simp [slot]; done)) | rfl | trivial | simp)) ?_
 rintro n ⟨hn, hv⟩
 simp only [ints]
 have hn' : n < x.length := by
  rcases c1V n x.length with h | h
  ·exact h
  ·rw [List.drop_of_length_le h] at hv; simp [Nm.wv] at hv; exact absurd hv h0
 have hgx : x[n]? = some (x[n]'hn') := c1x hn'
 have hd : x.drop n = x[n]'hn' :: x.drop (n + 1) := List.drop_eq_getElem_cons hn'
 have hx64 := hx _ (c1N hn')
 generalize x[n]'hn' = xn at *
 rw [hd] at hv
 simp only [Nm.wv] at hv
 (repeat first | refine uA ?_ | (refine uK ?_ ?_; focus first | omega | trivial | (intro h; rw [h]; rfl) | (intro h h2; rw [h, h2]; rfl) | (intro h; (try simp at h); omega) | (intros; simp_all <;> omega)) | simp only [go_sem, Nat.reduceBEq, Nat.reduceAdd, Nat.reduceLeDiff, Int.reduceToNat, Int.reducePow, u7, G9, hgx, c1z, lm] | simp (disch := omega) only [ww, u7, G9, hgx, c1z, lm])
 (refine uJ rfl (fun hc => ?_) fun hc => ?_)
 ·have hz : xn = 0 := by omega
  subst hz
  (repeat first | refine uA ?_ | (refine uK ?_ ?_; focus first | omega | trivial | (intro h; rw [h]; rfl) | (intro h h2; rw [h, h2]; rfl) | (intro h; (try simp at h); omega) | (intros; simp_all <;> omega)) | simp only [go_sem, Nat.reduceBEq, Nat.reduceAdd, Nat.reduceLeDiff, Int.reduceToNat, Int.reducePow] | simp (disch := omega) only [ww])
  refine S.next (x := n) (n + 1) ⟨hn', by rw [hv, c2e, <- c2f, c2i]⟩ (by omega) (by (repeat first | refine uA ?_ | (refine ⟨?_, ?_⟩; focus first | rfl | trivial | (simp [slot]; done)) | rfl | trivial | simp))
 ·have hz : xn ≠ 0 := by omega
  have he := b8K (n := n) (T := Nm.wv 18446744073709551616 (x.drop (n + 1))) hz hx64
  rw [<- hv] at he
  rw [he]
  have htz := c1v xn hz hx64
  have hk : Nm.v2 xn < 64 := by
   obtain ⟨q, h1, h2⟩ := Nm.a2m hz
   rcases c1V (Nm.v2 xn) 64 with h3 | h3
   ·exact h3
   ·exfalso
    have h4 : 2 ^ 64 <= 2 ^ Nm.v2 xn := c2c (by decide) h3
    have h5 : 2 ^ Nm.v2 xn <= 2 ^ Nm.v2 xn * q := Nat.le_mul_of_pos_right _ (by omega)
    omega
  have hcast : ((64 * n + Nm.v2 xn : Nat) : Int) = 64 * (n : Int) + (Nm.v2 xn : Int) := by omega
  rw [hcast]
  generalize Nm.v2 xn = k at *
  (repeat first | refine uA ?_ | (refine uK ?_ ?_; focus first | omega | trivial | (intro h; rw [h]; rfl) | (intro h h2; rw [h, h2]; rfl) | (intro h; (try simp at h); omega) | (intros; simp_all <;> omega)) | simp only [go_sem, Nat.reduceBEq, Nat.reduceAdd, Nat.reduceLeDiff, Int.reduceToNat, Int.reducePow, u7, G9, hgx, c1z, lm] | simp (disch := omega) only [ww, u7, G9, hgx, c1z, lm] | (refine uD htz ?_ ?_ ?_; exact tz hw; exact rfl))
  exact S.done (d9.out rfl (Imp.refl rfl) rfl)
namespace Nm
def F7 (l : List Nat) : List Nat := (l.reverse.dropWhile (· == 0)).reverse
theorem a5C (l : List Nat) : F7 (l ++ [0]) = F7 l := by simp [F7]
theorem a3h {l : List Nat} {x : Nat} (h : x ≠ 0) : F7 (l ++ [x]) = l ++ [x] := by simp [F7, h]
theorem a5W : F7 [] = [] := rfl
theorem a4a (l : List Nat) : F7 l = l.take (F7 l).length /\ (F7 l).length <= l.length /\ (∀ B, wv B (F7 l) = wv B l) /\ (∀ h : F7 l ≠ [], (F7 l).getLast h ≠ 0) := by
 obtain ⟨r, rfl⟩ : ∃ r, l = r.reverse := ⟨l.reverse, by simp⟩
 induction r with
 | nil => simp [a5W]
 | cons x r ih =>
  rw [List.reverse_cons]
  by_cases hx : x = 0
  ·subst hx
   rw [a5C]
   obtain ⟨h1, h2, h3, h4⟩ := ih
   refine ⟨?_, by rw [c1C]; omega, fun B => ?_, h4⟩
   ·rw [List.take_append_of_le_length h2]; exact h1
   ·rw [h3, a6H]; simp
  ·rw [a3h hx]
   refine ⟨by rw [c1U], c1I _, fun B => rfl, fun h => ?_⟩
   rw [List.getLast_concat]; exact hx
theorem b5S (l : List Nat) : (F7 l).length <= l.length := (a4a l).2.1
theorem b6d (B : Nat) (l : List Nat) : wv B (F7 l) = wv B l := (a4a l).2.2.1 B
theorem b3p (l : List Nat) : l.take (F7 l).length = F7 l := (a4a l).1.symm
theorem a8g (l : List Nat) (h : F7 l ≠ []) : (F7 l).getLast h ≠ 0 := (a4a l).2.2.2 h
end Nm
def rw2 (s : Bool) (u o : List Nat) : List Res := match s with
 | true => [.row 189 1 (ls u), .row 189 1 (ls o)]
 | false => [.row 189 1 (ls o), .row 189 1 (ls u)]
section
variable {rs rs' l : List Res} {u o : List Nat} {r : Res}
instance : Sb (L9 rs rs' (rw2 true u o) l) (L9 rs rs' [.row 189 1 (ls u), .row 189 1 (ls o)] l) := ⟨id⟩
instance : Sb (L9 rs rs' (rw2 false u o) l) (L9 rs rs' [.row 189 1 (ls o), .row 189 1 (ls u)] l) := ⟨id⟩
instance : Sb (L9 rs rs' (r :: l) (rw2 true u o)) (L9 rs rs' (r :: l) [.row 189 1 (ls u), .row 189 1 (ls o)]) := ⟨id⟩
instance : Sb (L9 rs rs' (r :: l) (rw2 false u o)) (L9 rs rs' (r :: l) [.row 189 1 (ls o), .row 189 1 (ls u)]) := ⟨id⟩
end
def kx (s : Bool) : Nat := match s with
 | true => 0
 | false => 1
theorem a6B {E : Ctx} (hP : E.P = Tryz.prog) (s : Bool) (u o : List Nat) (lo n : Nat) (hl : u.length <= 274877906944) (hn : lo + n <= u.length) (hlo : lo < u.length) :
    l8 E (rw2 s u o) 256 [.wv (kx s) 1 lo n] (.wv (kx s) 1 lo (Nm.F7 ((u.drop lo).take n)).length) (rw2 s u o) [] := by
  obtain ⟨P, eff', N, w0, own0, av0, nu0, pk0⟩ := E
  simp only at hP
  subst hP
  cases s
  all_goals
    refine l8.of (eff := eff) Tryz.func256 (by cbv) (by exact c1Q rfl) fun w own av ν hν => ?_
    simp only [j6, rw2, kx]
    have hν0 : ν.length <= 2 := by rw [hν]; exact c1I _
    (repeat first | refine uA ?_ | (refine uK ?_ ?_; focus first | omega | (intros; simp_all <;> omega)) | simp (disch := omega) only [go_sem, Nat.reduceBEq, Nat.reduceAdd, ww])
  · refine S.loop (X := Nat) (fun m => ⟨[(0, .wv 1 1 lo m)], [.row 189 1 (ls o), .row 189 1 (ls u)]⟩) (fun m => m <= n /\ Nm.F7 ((u.drop lo).take m) = Nm.F7 ((u.drop lo).take n)) (fun m => m) n ⟨c1I _, rfl⟩ (Ent.mk _ _ (by (repeat first | refine uA ?_ | (refine ⟨?_, ?_⟩; focus first | rfl | simp [slot]) | rfl | simp)) (by (repeat first | refine uA ?_ | (refine ⟨?_, ?_⟩; focus first | rfl | simp [slot]) | rfl | simp)) hν0) ?_
    rintro m ⟨hm, ht⟩
    have hq : lo + ((m : Int) - 1).toNat < u.length := by omega
    have hg : u[lo + ((m : Int) - 1).toNat]? = some (u[lo + ((m : Int) - 1).toNat]'hq) := c1x hq
    have hsn : 0 < m -> (u.drop lo).take m = (u.drop lo).take (m - 1) ++ [u[lo + ((m : Int) - 1).toNat]'hq] := fun h => by
      have e1 : (u.drop lo)[m - 1]? = some (u[lo + ((m : Int) - 1).toNat]'hq) := by
        rw [c2m, <- hg]; congr 1; omega
      conv => lhs; rw [show m = m - 1 + 1 by omega, List.take_add_one, e1]
      rfl
    generalize u[lo + ((m : Int) - 1).toNat]'hq = c at *
    (repeat first | refine uA ?_ | (refine uK ?_ ?_; focus first | omega | (intros; simp_all <;> omega)) | simp (disch := omega) only [go_sem, Nat.reduceBEq, Nat.reduceAdd, ww, u7, G9, hg, c1z, lm])
    (refine uJ rfl (fun hc => ?_) fun hc => ?_)
    · obtain ⟨h0, h1⟩ := hc
      have hc0 : c = 0 := by omega
      have hm1 : ((m : Int) - 1) = ((m - 1 : Nat) : Int) := by omega
      rw [hsn (by omega), hc0, Nm.a5C] at ht
      have hm2 : ((m : Int) - 1).toNat = m - 1 := by omega
      (repeat first | refine uA ?_ | (refine uK ?_ ?_; focus first | omega | (intros; simp_all <;> omega)) | simp (disch := omega) only [go_sem, Nat.reduceBEq, Nat.reduceAdd, ww, u7, hm2, Nat.add_zero, Nat.sub_zero, Int.toNat_zero])
      refine S.next (x := m) (m - 1) ⟨by omega, ht⟩ (by omega) (Ent.mk _ _ (by (repeat first | refine uA ?_ | (refine ⟨?_, ?_⟩; focus first | rfl | simp [slot]) | rfl | simp)) (by (repeat first | refine uA ?_ | (refine ⟨?_, ?_⟩; focus first | rfl | simp [slot]) | rfl | simp)) hν0)
    · have hmt : (Nm.F7 ((u.drop lo).take n)).length = m := by
        rw [<- ht]
        rcases c1Y m with h0 | h0
        · subst h0; simp [Nm.a5W]
        · have hcn : c ≠ 0 := by omega
          rw [hsn h0, Nm.a3h hcn, c1C, c1M, c2l, List.length_singleton]
          omega
      rw [hmt]
      (repeat first | refine uA ?_ | (refine uK ?_ ?_; focus first | omega | (intros; simp_all <;> omega)) | simp (disch := omega) only [go_sem, Nat.reduceBEq, Nat.reduceAdd, ww])
      exact S.done (d9.own rfl)
  · refine S.loop (X := Nat) (fun m => ⟨[(0, .wv 0 1 lo m)], [.row 189 1 (ls u), .row 189 1 (ls o)]⟩) (fun m => m <= n /\ Nm.F7 ((u.drop lo).take m) = Nm.F7 ((u.drop lo).take n)) (fun m => m) n ⟨c1I _, rfl⟩ (Ent.mk _ _ (by (repeat first | refine uA ?_ | (refine ⟨?_, ?_⟩; focus first | rfl | simp [slot]) | rfl | simp)) (by (repeat first | refine uA ?_ | (refine ⟨?_, ?_⟩; focus first | rfl | simp [slot]) | rfl | simp)) hν0) ?_
    rintro m ⟨hm, ht⟩
    have hq : lo + ((m : Int) - 1).toNat < u.length := by omega
    have hg : u[lo + ((m : Int) - 1).toNat]? = some (u[lo + ((m : Int) - 1).toNat]'hq) := c1x hq
    have hsn : 0 < m -> (u.drop lo).take m = (u.drop lo).take (m - 1) ++ [u[lo + ((m : Int) - 1).toNat]'hq] := fun h => by
      have e1 : (u.drop lo)[m - 1]? = some (u[lo + ((m : Int) - 1).toNat]'hq) := by
        rw [c2m, <- hg]; congr 1; omega
      conv => lhs; rw [show m = m - 1 + 1 by omega, List.take_add_one, e1]
      rfl
    generalize u[lo + ((m : Int) - 1).toNat]'hq = c at *
    (repeat first | refine uA ?_ | (refine uK ?_ ?_; focus first | omega | (intros; simp_all <;> omega)) | simp (disch := omega) only [go_sem, Nat.reduceBEq, Nat.reduceAdd, ww, u7, G9, hg, c1z, lm])
    (refine uJ rfl (fun hc => ?_) fun hc => ?_)
    · obtain ⟨h0, h1⟩ := hc
      have hc0 : c = 0 := by omega
      have hm1 : ((m : Int) - 1) = ((m - 1 : Nat) : Int) := by omega
      rw [hsn (by omega), hc0, Nm.a5C] at ht
      have hm2 : ((m : Int) - 1).toNat = m - 1 := by omega
      (repeat first | refine uA ?_ | (refine uK ?_ ?_; focus first | omega | (intros; simp_all <;> omega)) | simp (disch := omega) only [go_sem, Nat.reduceBEq, Nat.reduceAdd, ww, u7, hm2, Nat.add_zero, Nat.sub_zero, Int.toNat_zero])
      refine S.next (x := m) (m - 1) ⟨by omega, ht⟩ (by omega) (Ent.mk _ _ (by (repeat first | refine uA ?_ | (refine ⟨?_, ?_⟩; focus first | rfl | simp [slot]) | rfl | simp)) (by (repeat first | refine uA ?_ | (refine ⟨?_, ?_⟩; focus first | rfl | simp [slot]) | rfl | simp)) hν0)
    · have hmt : (Nm.F7 ((u.drop lo).take n)).length = m := by
        rw [<- ht]
        rcases c1Y m with h0 | h0
        · subst h0; simp [Nm.a5W]
        · have hcn : c ≠ 0 := by omega
          rw [hsn h0, Nm.a3h hcn, c1C, c1M, c2l, List.length_singleton]
          omega
      rw [hmt]
      (repeat first | refine uA ?_ | (refine uK ?_ ?_; focus first | omega | (intros; simp_all <;> omega)) | simp (disch := omega) only [go_sem, Nat.reduceBEq, Nat.reduceAdd, ww])
      exact S.done (d9.own rfl)
theorem b8i {E : Ctx} (hP : E.P = Tryz.prog) (s : Bool) (u o : List Nat) (lo n lo2 n2 : Nat) (hl : u.length <= 274877906944) (hlo2 : o.length <= 274877906944) (hn : lo + n <= u.length) (hlo : lo < u.length) (hn2 : lo2 + n2 <= o.length) (hnn : n2 <= n)
  (hu : Nm.K4 u) (ho : Nm.K4 o) {X Y : Nat} (hX : X = Nm.wv 18446744073709551616 ((u.drop lo).take n)) (hY : Y = Nm.wv 18446744073709551616 ((o.drop lo2).take n2)) (hle : Y <= X) :
  l8 E (rw2 s u o) 242 [.wv (kx s) 1 lo n, .wv (kx !s) 1 lo2 n2] (.wv (kx s) 1 lo (Nm.F7 (Nm.dig 18446744073709551616 n (X - Y))).length) (rw2 s (put u lo (Nm.dig 18446744073709551616 n (X - Y))) o) [] := by
 obtain ⟨P, eff', N, w0, own0, av0, nu0, pk0⟩ := E
 simp only at hP
 subst hP
 have hul : ((u.drop lo).take n).length = n := by rw [c1M, c2l]; omega
 have hol2 : ((o.drop lo2).take n2).length = n2 := by rw [c1M, c2l]; omega
 have hua : Nm.K4 ((u.drop lo).take n) := (hu.drop lo).take _
 have hoa : Nm.K4 ((o.drop lo2).take n2) := (ho.drop lo2).take _
 have hps : put u lo ((u.drop lo).take n) = u := a3U hn
 have hgo2 : ∀ i, i < n2 -> o[lo2 + i]? = ((o.drop lo2).take n2)[i]? := fun i hi => by rw [List.getElem?_take_of_lt hi, c2m]
 generalize (u.drop lo).take n = x at *
 generalize (o.drop lo2).take n2 = y at *
 cases s
 all_goals
  refine l8.of (eff := eff) Tryz.func242 (by cbv) (by exact c1Q rfl) fun w own av ν hν => ?_
  simp only [j6, rw2, kx, Bool.not_true, Bool.not_false]
  have hν0 : ν.length <= 2 := by rw [hν]; exact c1I _
  (repeat first | refine uA ?_ | (refine uK ?_ ?_; focus first | omega | (intros; simp_all <;> omega)) | simp (disch := omega) only [go_sem, Nat.reduceBEq, Nat.reduceAdd, ww])
 ·refine S.loop (X := Nat × List Nat × Nat) (fun s => ⟨[(0, .wv 1 1 lo n), (1, .wv 0 1 lo2 n2), (5, .v (.int .u64 (s.2.2 : Int))), (8, .wv 1 1 lo n), (9, ints n), (10, ints s.1)], [.row 189 1 (ls o), .row 189 1 (ls (put u lo s.2.1))]⟩) (fun s => s.1 <= n /\ Nm.a2q x y s.1 s.2.1 s.2.2) (fun s => n - s.1) (0, x, 0) ⟨c1H _, Nm.a5G y hua⟩ (by simp only [hps]; exact Ent.mk _ _ (by (repeat first | refine uA ?_ | (refine ⟨?_, ?_⟩; focus first | rfl | simp [slot]) | rfl | simp)) (by (repeat first | refine uA ?_ | (refine ⟨?_, ?_⟩; focus first | rfl | simp [slot]) | rfl | simp)) hν0) ?_
  rintro ⟨i, out, c⟩ ⟨hi, hinv⟩
  simp only [ints] at hi hinv ⊢
  have hol := hinv.1
  have hc1 := hinv.2.2.1
  have hpl : (put u lo out).length = u.length := Y8 (by omega)
  (repeat first | refine uA ?_ | (refine uK ?_ ?_; focus first | omega | (intros; simp_all <;> omega)) | simp (disch := omega) only [go_sem, Nat.reduceBEq, Nat.reduceAdd, ww])
  (refine uJ rfl (fun hc => ?_) fun hc => ?_)
  ·have hi' : i < n := by omega
   have hix : i < x.length := by omega
   have hgx : x[i]? = some (x[i]'hix) := c1x hix
   have hgo : (put u lo out)[lo + i]? = some (x[i]'hix) := by rw [Q8 (by omega) (by omega), Nm.a0l hinv.2.2.2.1, hgx]
   have hx64 := hua _ (c1N hix)
   have hk := fun t c' h1 h2 h3 => Nm.a5F (t := t) (c' := c') hinv hix h1 h2 h3
   generalize x[i]'hix = xi at *
   have hsub : ∀ d : Nat, d < 18446744073709551616 -> ∃ t c' : Nat, ((xi : Int) + 18446744073709551616 - (d : Int) - (c : Int)) % 18446744073709551616 = (t : Int) /\ (if (xi : Int) < (d : Int) + (c : Int) then (1 : Int) else 0) = (c' : Int) /\ t < 18446744073709551616 /\ c' <= 1 /\ t + c + d = xi + 18446744073709551616 * c' := fun d hd => by
    by_cases h : xi < d + c
    ·exact ⟨xi + 18446744073709551616 - d - c, 1, by omega, by rw [if_pos (by omega)]; rfl, by omega, by omega, by omega⟩
    ·exact ⟨xi - d - c, 0, by omega, by rw [if_neg (by omega)]; rfl, by omega, by omega, by omega⟩
   have hsl : ∀ t, (put u lo out).set (lo + i) t = put u lo (out.set i t) := fun t => Y7 (by omega) (by omega)
   (repeat first | refine uA ?_ | (refine uK ?_ ?_; focus first | omega | (intros; simp_all <;> omega)) | simp (disch := omega) only [go_sem, Nat.reduceBEq, Nat.reduceAdd, ww, u7])
   (refine uJ rfl (fun hc => ?_) fun hc => ?_)
   ·have hiy : i < y.length := by omega
    have hgy : y[i]? = some (y[i]'hiy) := c1x hiy
    have hgy2 := (hgo2 i (by omega)).trans hgy
    have hy64 := hoa _ (c1N hiy)
    rw [Nm.getD_lt hiy] at hk
    generalize y[i]'hiy = yi at *
    obtain ⟨t, c', e1, e2, h1, h2, h3⟩ := hsub yi hy64
    have hk := hk t c' h1 h2 h3
    (repeat first | refine uA ?_ | (refine uK ?_ ?_; focus first | omega | (intros; simp_all <;> omega)) | simp (disch := omega) only [go_sem, Nat.reduceBEq, Nat.reduceAdd, ww, u7, G9, hgo, hgy2, hpl, c1z, lm, e1, e2, V9, hsl])
    refine S.next (x := (i, out, c)) (i + 1, _, _) ⟨hi', hk⟩ (by simp only; omega) (Ent.mk _ _ (by (repeat first | refine uA ?_ | (refine ⟨?_, ?_⟩; focus first | rfl | simp [slot]) | rfl | simp)) (by (repeat first | refine uA ?_ | (refine ⟨?_, ?_⟩; focus first | rfl | simp [slot]) | rfl | simp)) hν0)
   ·have hy0 : y.getD i 0 = 0 := by rw [c1O, c2k (by omega)]; rfl
    rw [hy0] at hk
    obtain ⟨t, c', e1, e2, h1, h2, h3⟩   := hsub 0 (by decide)
    rw [show ((0 : Nat) : Int) = 0 from rfl] at e1 e2
    have hk := hk t c' h1 h2 h3
    (repeat first | refine uA ?_ | (refine uK ?_ ?_; focus first | omega | (intros; simp_all <;> omega)) | simp (disch := omega) only [go_sem, Nat.reduceBEq, Nat.reduceAdd, ww, u7, G9, hgo, hpl, c1z, lm, e1, e2, V9, hsl])
    refine S.next (x := (i, out, c)) (i + 1, _, _) ⟨hi', hk⟩ (by simp only; omega) (Ent.mk _ _ (by (repeat first | refine uA ?_ | (refine ⟨?_, ?_⟩; focus first | rfl | simp [slot]) | rfl | simp)) (by (repeat first | refine uA ?_ | (refine ⟨?_, ?_⟩; focus first | rfl | simp [slot]) | rfl | simp)) hν0)
  ·have hi' : i = n := by omega
   subst hi'
   rw [<- hul] at hinv
   obtain ⟨he1, he2⟩ := Nm.a6e hinv (by omega) (by omega)
   have hd : out = Nm.dig 18446744073709551616 i (X - Y) := Nm.U8 (by decide) hinv.2.1 (by omega) (by omega)
   rw [<- hd]
   have hcut := fun (E : Ctx) (hP : E.P = Tryz.prog) => a6B (E := E) hP (match 1 with | 0 => true | _ => false) (put u lo out) o lo i (by omega) (by omega) (by omega)
   rw [a1F (by omega) (by omega)] at hcut
   (repeat first | refine uA ?_ | (refine uK ?_ ?_; focus first | omega | (intros; simp_all <;> omega)) | simp (disch := omega) only [go_sem, Nat.reduceBEq, Nat.reduceAdd, ww] | refine l9.t (hcut _ rfl) ?_)
   exact S.done (d9.own rfl)
 ·refine S.loop (X := Nat × List Nat × Nat) (fun s => ⟨[(0, .wv 0 1 lo n), (1, .wv 1 1 lo2 n2), (5, .v (.int .u64 (s.2.2 : Int))), (8, .wv 0 1 lo n), (9, ints n), (10, ints s.1)], [.row 189 1 (ls (put u lo s.2.1)), .row 189 1 (ls o)]⟩) (fun s => s.1 <= n /\ Nm.a2q x y s.1 s.2.1 s.2.2) (fun s => n - s.1) (0, x, 0) ⟨c1H _, Nm.a5G y hua⟩ (by simp only [hps]; exact Ent.mk _ _ (by (repeat first | refine uA ?_ | (refine ⟨?_, ?_⟩; focus first | rfl | simp [slot]) | rfl | simp)) (by (repeat first | refine uA ?_ | (refine ⟨?_, ?_⟩; focus first | rfl | simp [slot]) | rfl | simp)) hν0) ?_
  rintro ⟨i, out, c⟩ ⟨hi, hinv⟩
  simp only [ints] at hi hinv ⊢
  have hol := hinv.1
  have hc1 := hinv.2.2.1
  have hpl : (put u lo out).length = u.length := Y8 (by omega)
  (repeat first | refine uA ?_ | (refine uK ?_ ?_; focus first | omega | (intros; simp_all <;> omega)) | simp (disch := omega) only [go_sem, Nat.reduceBEq, Nat.reduceAdd, ww])
  (refine uJ rfl (fun hc => ?_) fun hc => ?_)
  ·have hi' : i < n := by omega
   have hix : i < x.length := by omega
   have hgx : x[i]? = some (x[i]'hix) := c1x hix
   have hgo : (put u lo out)[lo + i]? = some (x[i]'hix) := by rw [Q8 (by omega) (by omega), Nm.a0l hinv.2.2.2.1, hgx]
   have hx64 := hua _ (c1N hix)
   have hk := fun t c' h1 h2 h3 => Nm.a5F (t := t) (c' := c') hinv hix h1 h2 h3
   generalize x[i]'hix = xi at *
   have hsub : ∀ d : Nat, d < 18446744073709551616 -> ∃ t c' : Nat, ((xi : Int) + 18446744073709551616 - (d : Int) - (c : Int)) % 18446744073709551616 = (t : Int) /\ (if (xi : Int) < (d : Int) + (c : Int) then (1 : Int) else 0) = (c' : Int) /\ t < 18446744073709551616 /\ c' <= 1 /\ t + c + d = xi + 18446744073709551616 * c' := fun d hd => by
    by_cases h : xi < d + c
    ·exact ⟨xi + 18446744073709551616 - d - c, 1, by omega, by rw [if_pos (by omega)]; rfl, by omega, by omega, by omega⟩
    ·exact ⟨xi - d - c, 0, by omega, by rw [if_neg (by omega)]; rfl, by omega, by omega, by omega⟩
   have hsl : ∀ t, (put u lo out).set (lo + i) t = put u lo (out.set i t) := fun t => Y7 (by omega) (by omega)
   (repeat first | refine uA ?_ | (refine uK ?_ ?_; focus first | omega | (intros; simp_all <;> omega)) | simp (disch := omega) only [go_sem, Nat.reduceBEq, Nat.reduceAdd, ww, u7])
   (refine uJ rfl (fun hc => ?_) fun hc => ?_)
   ·have hiy : i < y.length := by omega
    have hgy : y[i]? = some (y[i]'hiy) := c1x hiy
    have hgy2 := (hgo2 i (by omega)).trans hgy
    have hy64 := hoa _ (c1N hiy)
    rw [Nm.getD_lt hiy] at hk
    generalize y[i]'hiy = yi at *
    obtain ⟨t, c', e1, e2, h1, h2, h3⟩ := hsub yi hy64
    have hk := hk t c' h1 h2 h3
    (repeat first | refine uA ?_ | (refine uK ?_ ?_; focus first | omega | (intros; simp_all <;> omega)) | simp (disch := omega) only [go_sem, Nat.reduceBEq, Nat.reduceAdd, ww, u7, G9, hgo, hgy2, hpl, c1z, lm, e1, e2, V9, hsl])
    refine S.next (x := (i, out, c)) (i + 1, _, _) ⟨hi', hk⟩ (by simp only; omega) (Ent.mk _ _ (by (repeat first | refine uA ?_ | (refine ⟨?_, ?_⟩; focus first | rfl | simp [slot]) | rfl | simp)) (by (repeat first | refine uA ?_ | (refine ⟨?_, ?_⟩; focus first | rfl | simp [slot]) | rfl | simp)) hν0)
   ·have hy0 : y.getD i 0 = 0 := by rw [c1O, c2k (by omega)]; rfl
    rw [hy0] at hk
    obtain ⟨t, c', e1, e2, h1, h2, h3⟩   := hsub 0 (by decide)
    rw [show ((0 : Nat) : Int) = 0 from rfl] at e1 e2
    have hk := hk t c' h1 h2 h3
    (repeat first | refine uA ?_ | (refine uK ?_ ?_; focus first | omega | (intros; simp_all <;> omega)) | simp (disch := omega) only [go_sem, Nat.reduceBEq, Nat.reduceAdd, ww, u7, G9, hgo, hpl, c1z, lm, e1, e2, V9, hsl])
    refine S.next (x := (i, out, c)) (i + 1, _, _) ⟨hi', hk⟩ (by simp only; omega) (Ent.mk _ _ (by (repeat first | refine uA ?_ | (refine ⟨?_, ?_⟩; focus first | rfl | simp [slot]) | rfl | simp)) (by (repeat first | refine uA ?_ | (refine ⟨?_, ?_⟩; focus first | rfl | simp [slot]) | rfl | simp)) hν0)
  ·have hi' : i = n := by omega
   subst hi'
   rw [<- hul] at hinv
   obtain ⟨he1, he2⟩ := Nm.a6e hinv (by omega) (by omega)
   have hd : out = Nm.dig 18446744073709551616 i (X - Y) := Nm.U8 (by decide) hinv.2.1 (by omega) (by omega)
   rw [<- hd]
   have hcut := fun (E : Ctx) (hP : E.P = Tryz.prog) => a6B (E := E) hP (match 0 with | 0 => true | _ => false) (put u lo out) o lo i (by omega) (by omega) (by omega)
   rw [a1F (by omega) (by omega)] at hcut
   (repeat first | refine uA ?_ | (refine uK ?_ ?_; focus first | omega | (intros; simp_all <;> omega)) | simp (disch := omega) only [go_sem, Nat.reduceBEq, Nat.reduceAdd, ww] | refine l9.t (hcut _ rfl) ?_)
   exact S.done (d9.own rfl)
theorem b9p (i : Nat) (h : i <= 70368744177664) : IntKind.i64.wrap ((i : Int).tdiv 64) = ((i / 64 : Nat) : Int) := by
 have : (i : Int).tdiv 64 = ((i / 64 : Nat) : Int) := rfl
 rw [this, Eng.wrap_i64 (by omega)]
theorem b8b (i : Nat) : (i : Int).tmod 64 = ((i % 64 : Nat) : Int) := rfl
theorem b0U (o n : Nat) (ho : o < 18446744073709551616) : bits .or .u64 (o : Int) (((n % 18446744073709551616 : Nat)) : Int) = ((o ||| n % 18446744073709551616 : Nat) : Int) := a7H _ _ ho (Nat.mod_lt _ (by decide))
theorem a9n (x r : Nat) (hr : r <= 64) : IntKind.u64.wrap ((x : Int) * 2 ^ min r 64) = ((x * 2 ^ r % 18446744073709551616 : Nat) : Int) := by
 rw [show min r 64 = r by omega, <- a3O]; congr 1
theorem a6s {E : Ctx} (hP : E.P = Tryz.prog) (s : Bool) (u o : List Nat) (lo n by' z : Nat) (hl : u.length <= 274877906944) (hn : lo + n <= u.length) (hb : by' <= 70368744177664)
  (hu : Nm.K4 u) (hz : z ≠ 0) (hX : Nm.wv 18446744073709551616 ((u.drop lo).take n) = z * 2 ^ by') :
  by' / 64 < n /\ z < 18446744073709551616 ^ (n - by' / 64) /\ l8 E (rw2 s u o) 240 [.wv (kx s) 1 lo n, ints by'] (.wv (kx s) 1 (lo + by' / 64) (Nm.F7 (Nm.dig 18446744073709551616 (n - by' / 64) z)).length) (rw2 s (put u (lo + by' / 64) (Nm.dig 18446744073709551616 (n - by' / 64) z)) o) [] := by
 have hul : ((u.drop lo).take n).length = n := by rw [c1M, c2l]; omega
 have hua : Nm.K4 ((u.drop lo).take n) := (hu.drop lo).take _
 have e2 : 2 ^ by' = 18446744073709551616 ^ (by' / 64) * 2 ^ (by' % 64) := by
  rw [show (18446744073709551616 : Nat) = 2 ^ 64 by decide, <- Nat.pow_mul, <- Nat.pow_add]; congr 1; omega
 have hjn : by' / 64 < n := by
  rcases c1V (by' / 64) n with h | h
  ·exact h
  ·exfalso
   have h1 := Nm.J5 18446744073709551616 hua
   have h2 : 18446744073709551616 ^ n <= 18446744073709551616 ^ (by' / 64) := c2c (by decide) h
   have h3 : 18446744073709551616 ^ (by' / 64) <= 2 ^ by' := by rw [e2]; exact Nat.le_mul_of_pos_right _ (Nat.pow_pos (by decide))
   have h4 : 2 ^ by' <= z * 2 ^ by' := Nat.le_mul_of_pos_left _ (by omega)
   rw [hul] at h1
   omega
 have hdr : ((u.drop lo).take n).drop (by' / 64) = (u.drop (lo + by' / 64)).take (n - by' / 64) := by
  rw [List.drop_take, List.drop_drop]
 have hW1 : Nm.wv 18446744073709551616 ((u.drop (lo + by' / 64)).take (n - by' / 64)) = z * 2 ^ (by' % 64) := by
  rw [<- hdr, Nm.b2H hua (by omega), hX, e2, <- c2f, Nat.mul_comm z, c2f, Nat.mul_comm (18446744073709551616 ^ _) (z * _), Nat.mul_div_cancel _ (Nat.pow_pos (by decide))]
 have hb64 : by' % 64 < 64 := Nat.mod_lt _ (by decide)
 have hjb : by' / 64 <= 1099511627776 := by omega
 clear hdr hX e2
 have hq1 := b9p by' hb
 have hq2 := b8b by'
 generalize by' / 64 = j at *
 generalize by' % 64 = b at *
 generalize hp : n - j = p at *
 generalize hl1 : lo + j = l1 at *
 have hlp : l1 + p <= u.length := by omega
 have hp0 : 0 < p := by omega
 have hpn : n - j = p := hp
 have hua1 : Nm.K4 ((u.drop l1).take p) := (hu.drop l1).take _
 have hps : put u l1 ((u.drop l1).take p) = u := a3U hlp
 have hrl : ((u.drop l1).take p).length = p := by rw [c1M, c2l]; omega
 generalize (u.drop l1).take p = r0 at *
 have hzl : z < 18446744073709551616 ^ p := by
  have h1 := Nm.J5 18446744073709551616 hua1
  rw [hrl, hW1] at h1
  exact Nat.lt_of_le_of_lt (Nat.le_mul_of_pos_right _ (Nat.pow_pos (by decide))) h1
 refine ⟨hjn, hzl, ?_⟩
 clear hul hua
 obtain ⟨P, eff', N, w0, own0, av0, nu0, pk0⟩ := E
 simp only at hP
 subst hP
 cases s
 all_goals
  refine l8.of (eff := eff) Tryz.func240 (by cbv) (by exact c1Q rfl) fun w own av ν hν => ?_
  simp only [j6, rw2, kx, ints]
  have hν0 : ν.length <= 2 := by rw [hν]; exact c1I _
  (repeat first | refine uA ?_ | (refine uK ?_ ?_; focus first | omega | trivial | (intro h; rw [h]; rfl) | (intro h h2; rw [h, h2]; rfl) | (intro h; (try simp at h); omega) | (intros; simp_all <;> omega)) | simp only [go_sem, Nat.reduceBEq, Nat.reduceAdd, Nat.reduceLeDiff, Int.reduceToNat, Int.reducePow, hq1, hq2, u7, hl1, hpn] | simp (disch := omega) only [ww, hq1, hq2, u7, hl1, hpn])
  (refine uJ rfl (fun hc => ?_) fun hc => ?_)
 ·(repeat first | refine uA ?_ | (refine uK ?_ ?_; focus first | omega | trivial | (intro h; rw [h]; rfl) | (intro h h2; rw [h, h2]; rfl) | (intro h; (try simp at h); omega) | (intros; simp_all <;> omega)) | simp only [go_sem, Nat.reduceBEq, Nat.reduceAdd, Nat.reduceLeDiff, Int.reduceToNat, Int.reducePow] | simp (disch := omega) only [ww])
  refine S.loop (X := Nat × List Nat) (fun s => ⟨[(0, .wv 1 1 l1 p), (1, ints b), (15, ints p), (16, ints s.1)], [.row 189 1 (ls o), .row 189 1 (ls (put u l1 s.2))]⟩) (fun s => s.1 <= p /\ Nm.a1l r0 (2 ^ b) s.1 s.2) (fun s => p - s.1) (0, r0) ⟨c1H _, Nm.a4g hua1⟩ (by simp only [hps]; exact Ent.mk _ _ (by (repeat first | refine uA ?_ | (refine ⟨?_, ?_⟩; focus first | rfl | trivial | (simp [slot]; done)) | rfl | trivial | simp)) (by (repeat first | refine uA ?_ | (refine ⟨?_, ?_⟩; focus first | rfl | trivial | (simp [slot]; done)) | rfl | trivial | simp)) hν0) ?_
  rintro ⟨i, out⟩ ⟨hi, hri⟩
  simp only [ints] at hi hri ⊢
  have hol := hri.1
  have hpl : (put u l1 out).length = u.length := Y8 (by omega)
  (repeat first | refine uA ?_ | (refine uK ?_ ?_; focus first | omega | trivial | (intro h; rw [h]; rfl) | (intro h h2; rw [h, h2]; rfl) | (intro h; (try simp at h); omega) | (intros; simp_all <;> omega)) | simp only [go_sem, Nat.reduceBEq, Nat.reduceAdd, Nat.reduceLeDiff, Int.reduceToNat, Int.reducePow] | simp (disch := omega) only [ww])
  (refine uJ rfl (fun hc => ?_) fun hc => ?_)
  ·have hi' : i < p := by omega
   have hir : i < r0.length := by omega
   have hgr : r0[i]? = some (r0[i]'hir) := c1x hir
   have hgo : (put u l1 out)[l1 + i]? = some (r0[i]'hir) := by
    rw [Q8 (by omega) (by omega), Nm.a0l hri.2.2.1, hgr]
   have hr32' := hua1 _ (c1N hir)
   have hk := fun t ht => Nm.a3X (t := t) hri hb64 hir hua1 ht
   have hset : ∀ a, (put u l1 out).set (l1 + i) a = put u l1 (out.set i a) := fun a => Y7 (by omega) (by omega)
   generalize r0[i]'hir = ri at *
   have hsh : Int.fdiv (ri : Int) (2 ^ min b 64) = ((ri / 2 ^ b : Nat) : Int) := by
    rw [show min b 64 = b by omega, <- a1C]; congr 1
   have hrb : ri / 2 ^ b < 18446744073709551616 := Nat.lt_of_le_of_lt (Nat.div_le_self _ _) hr32'
   generalize ri / 2 ^ b = rs at *
   (repeat first | refine uA ?_ | (refine uK ?_ ?_; focus first | omega | trivial | (intro h; rw [h]; rfl) | (intro h h2; rw [h, h2]; rfl) | (intro h; (try simp at h); omega) | (intros; simp_all <;> omega)) | simp only [go_sem, Nat.reduceBEq, Nat.reduceAdd, Nat.reduceLeDiff, Int.reduceToNat, Int.reducePow, u7, G9, hgo, hpl, c1z, lm, V9, hsh, hset] | simp (disch := omega) only [ww, u7, G9, hgo, hpl, c1z, lm, V9, hsh, hset])
   (refine uJ rfl (fun hc => ?_) fun hc => ?_)
   ·have hi1 : i + 1 < r0.length := by omega
    have hpl1 : (put u l1 (out.set i rs)).length = u.length := Y8 (by rw [c2g]; omega)
    have hg1 : (put u l1 (out.set i rs))[l1 + i]? = some rs := by
     rw [<- hset, List.getElem?_set_self (by omega)]
    have hg3 : r0[i + 1]? = some (r0[i + 1]'hi1) := c1x hi1
    have hg2 : (put u l1 (out.set i rs))[l1 + (i + 1)]? = some (r0[i + 1]'hi1) := by
     have := Q8 (us := u) (out := out) (k := l1) (i := i + 1) (by omega) (by omega)
     rw [<- hset, List.getElem?_set_ne (by omega), this]
     have h3 := congrArg (fun l => l[1]?) hri.2.2.1
     simp only [c2m] at h3
     rw [h3, hg3]
    have hn32 := hua1 _ (c1N hi1)
    have hgd : r0.getD (i + 1) 0 = r0[i + 1]'hi1 := Nm.getD_lt hi1
    rw [hgd] at hk
    generalize r0[i + 1]'hi1 = rn at *
    have hshl := a9n rn (64 - b) (by omega)
    have hrr : ((64 : Int) - (b : Int)).toNat = 64 - b := by omega
    have horl := b0U rs (rn * 2 ^ (64 - b)) hrb
    have hk := hk _ rfl
    rw [if_pos (by omega)] at hk
    generalize rn * 2 ^ (64 - b) = sh at *
    generalize hto : rs ||| sh % 18446744073709551616 = to at *
    have hset2 : (put u l1 (out.set i rs)).set (l1 + i) to = put u l1 (out.set i to) := by
     have := Y7 (us := u) (out := out.set i rs) (k := l1) (i := i) (v := to) (by rw [c2g]; omega) (by rw [c2g]; omega)
     rwa [List.set_set] at this
    have hi1n : ((i : Int) + 1).toNat = i + 1 := by omega
    (repeat first | refine uA ?_ | (refine uK ?_ ?_; focus first | omega | trivial | (intro h; rw [h]; rfl) | (intro h h2; rw [h, h2]; rfl) | (intro h; (try simp at h); omega) | (intros; simp_all <;> omega)) | simp only [go_sem, Nat.reduceBEq, Nat.reduceAdd, Nat.reduceLeDiff, Int.reduceToNat, Int.reducePow, u7, G9, hg1, hg2, hpl1, c1z, lm, hrr, hi1n, hshl, horl, V9, hset2] | simp (disch := omega) only [ww, u7, G9, hg1, hg2, hpl1, c1z, lm, hrr, hi1n, hshl, horl, V9, hset2])
    refine S.next (x := (i, out)) (i + 1, _) ⟨hi', hk.1⟩ (by simp only; omega) (Ent.mk _ _ (by (repeat first | refine uA ?_ | (refine ⟨?_, ?_⟩; focus first | rfl | trivial | (simp [slot]; done)) | rfl | trivial | simp)) (by (repeat first | refine uA ?_ | (refine ⟨?_, ?_⟩; focus first | rfl | trivial | (simp [slot]; done)) | rfl | trivial | simp)) hν0)
   ·have hk := hk _ rfl
    rw [if_neg (by omega)] at hk
    (repeat first | refine uA ?_ | (refine uK ?_ ?_; focus first | omega | trivial | (intro h; rw [h]; rfl) | (intro h h2; rw [h, h2]; rfl) | (intro h; (try simp at h); omega) | (intros; simp_all <;> omega)) | simp only [go_sem, Nat.reduceBEq, Nat.reduceAdd, Nat.reduceLeDiff, Int.reduceToNat, Int.reducePow] | simp (disch := omega) only [ww])
    refine S.next (x := (i, out)) (i + 1, _) ⟨hi', hk.1⟩ (by simp only; omega) (Ent.mk _ _ (by (repeat first | refine uA ?_ | (refine ⟨?_, ?_⟩; focus first | rfl | trivial | (simp [slot]; done)) | rfl | trivial | simp)) (by (repeat first | refine uA ?_ | (refine ⟨?_, ?_⟩; focus first | rfl | trivial | (simp [slot]; done)) | rfl | trivial | simp)) hν0)
  ·have hi' : i = p := by omega
   subst hi'
   rw [<- hrl] at hri
   have he := Nm.a4z hri (by omega) hW1
   have hd : out = Nm.dig 18446744073709551616 i z := Nm.U8 (by decide) hri.2.1 (by omega) he
   rw [<- hd]
   have hcut := fun (E : Ctx) (hP : E.P = Tryz.prog) => a6B (E := E) hP (match 1 with | 0 => true | _ => false) (put u l1 out) o l1 i (by omega) (by omega) (by omega)
   rw [a1F (by omega) (by omega)] at hcut
   (repeat first | refine uA ?_ | (refine uK ?_ ?_; focus first | omega | trivial | (intro h; rw [h]; rfl) | (intro h h2; rw [h, h2]; rfl) | (intro h; (try simp at h); omega) | (intros; simp_all <;> omega)) | simp only [go_sem, Nat.reduceBEq, Nat.reduceAdd, Nat.reduceLeDiff, Int.reduceToNat, Int.reducePow] | simp (disch := omega) only [ww] | refine l9.t (hcut _ rfl) ?_)
   exact S.done (d9.own rfl)
 ·have hb0 : b = 0 := by omega
  subst hb0
  rw [Nat.pow_zero, Nat.mul_one] at hW1
  have hd : r0 = Nm.dig 18446744073709551616 p z := Nm.U8 (by decide) hua1 hrl hW1
  have hcut := fun (E : Ctx) (hP : E.P = Tryz.prog) => a6B (E := E) hP (match 1 with | 0 => true | _ => false) u o l1 p (by omega) (by omega) (by omega)
  have hw : (u.drop l1).take p = r0 := by rw [<- hps]; exact a1F hrl.symm (by omega)
  rw [hw] at hcut
  rw [<- hd, hps]
  (repeat first | refine uA ?_ | (refine uK ?_ ?_; focus first | omega | trivial | (intro h; rw [h]; rfl) | (intro h h2; rw [h, h2]; rfl) | (intro h; (try simp at h); omega) | (intros; simp_all <;> omega)) | simp only [go_sem, Nat.reduceBEq, Nat.reduceAdd, Nat.reduceLeDiff, Int.reduceToNat, Int.reducePow] | simp (disch := omega) only [ww] | refine l9.t (hcut _ rfl) ?_)
  exact S.done (d9.own rfl)
 ·(repeat first | refine uA ?_ | (refine uK ?_ ?_; focus first | omega | trivial | (intro h; rw [h]; rfl) | (intro h h2; rw [h, h2]; rfl) | (intro h; (try simp at h); omega) | (intros; simp_all <;> omega)) | simp only [go_sem, Nat.reduceBEq, Nat.reduceAdd, Nat.reduceLeDiff, Int.reduceToNat, Int.reducePow] | simp (disch := omega) only [ww])
  refine S.loop (X := Nat × List Nat) (fun s => ⟨[(0, .wv 0 1 l1 p), (1, ints b), (15, ints p), (16, ints s.1)], [.row 189 1 (ls (put u l1 s.2)), .row 189 1 (ls o)]⟩) (fun s => s.1 <= p /\ Nm.a1l r0 (2 ^ b) s.1 s.2) (fun s => p - s.1) (0, r0) ⟨c1H _, Nm.a4g hua1⟩ (by simp only [hps]; exact Ent.mk _ _ (by (repeat first | refine uA ?_ | (refine ⟨?_, ?_⟩; focus first | rfl | trivial | (simp [slot]; done)) | rfl | trivial | simp)) (by (repeat first | refine uA ?_ | (refine ⟨?_, ?_⟩; focus first | rfl | trivial | (simp [slot]; done)) | rfl | trivial | simp)) hν0) ?_
  rintro ⟨i, out⟩ ⟨hi, hri⟩
  simp only [ints] at hi hri ⊢
  have hol := hri.1
  have hpl : (put u l1 out).length = u.length := Y8 (by omega)
  (repeat first | refine uA ?_ | (refine uK ?_ ?_; focus first | omega | trivial | (intro h; rw [h]; rfl) | (intro h h2; rw [h, h2]; rfl) | (intro h; (try simp at h); omega) | (intros; simp_all <;> omega)) | simp only [go_sem, Nat.reduceBEq, Nat.reduceAdd, Nat.reduceLeDiff, Int.reduceToNat, Int.reducePow] | simp (disch := omega) only [ww])
  (refine uJ rfl (fun hc => ?_) fun hc => ?_)
  ·have hi' : i < p := by omega
   have hir : i < r0.length := by omega
   have hgr : r0[i]? = some (r0[i]'hir) := c1x hir
   have hgo : (put u l1 out)[l1 + i]? = some (r0[i]'hir) := by
    rw [Q8 (by omega) (by omega), Nm.a0l hri.2.2.1, hgr]
   have hr32' := hua1 _ (c1N hir)
   have hk := fun t ht => Nm.a3X (t := t) hri hb64 hir hua1 ht
   have hset : ∀ a, (put u l1 out).set (l1 + i) a = put u l1 (out.set i a) := fun a => Y7 (by omega) (by omega)
   generalize r0[i]'hir = ri at *
   have hsh : Int.fdiv (ri : Int) (2 ^ min b 64) = ((ri / 2 ^ b : Nat) : Int) := by
    rw [show min b 64 = b by omega, <- a1C]; congr 1
   have hrb : ri / 2 ^ b < 18446744073709551616 := Nat.lt_of_le_of_lt (Nat.div_le_self _ _) hr32'
   generalize ri / 2 ^ b = rs at *
   (repeat first | refine uA ?_ | (refine uK ?_ ?_; focus first | omega | trivial | (intro h; rw [h]; rfl) | (intro h h2; rw [h, h2]; rfl) | (intro h; (try simp at h); omega) | (intros; simp_all <;> omega)) | simp only [go_sem, Nat.reduceBEq, Nat.reduceAdd, Nat.reduceLeDiff, Int.reduceToNat, Int.reducePow, u7, G9, hgo, hpl, c1z, lm, V9, hsh, hset] | simp (disch := omega) only [ww, u7, G9, hgo, hpl, c1z, lm, V9, hsh, hset])
   (refine uJ rfl (fun hc => ?_) fun hc => ?_)
   ·have hi1 : i + 1 < r0.length := by omega
    have hpl1 : (put u l1 (out.set i rs)).length = u.length := Y8 (by rw [c2g]; omega)
    have hg1 : (put u l1 (out.set i rs))[l1 + i]? = some rs := by
     rw [<- hset, List.getElem?_set_self (by omega)]
    have hg3 : r0[i + 1]? = some (r0[i + 1]'hi1) := c1x hi1
    have hg2 : (put u l1 (out.set i rs))[l1 + (i + 1)]? = some (r0[i + 1]'hi1) := by
     have := Q8 (us := u) (out := out) (k := l1) (i := i + 1) (by omega) (by omega)
     rw [<- hset, List.getElem?_set_ne (by omega), this]
     have h3 := congrArg (fun l => l[1]?) hri.2.2.1
     simp only [c2m] at h3
     rw [h3, hg3]
    have hn32 := hua1 _ (c1N hi1)
    have hgd : r0.getD (i + 1) 0 = r0[i + 1]'hi1 := Nm.getD_lt hi1
    rw [hgd] at hk
    generalize r0[i + 1]'hi1 = rn at *
    have hshl := a9n rn (64 - b) (by omega)
    have hrr : ((64 : Int) - (b : Int)).toNat = 64 - b := by omega
    have horl := b0U rs (rn * 2 ^ (64 - b)) hrb
    have hk := hk _ rfl
    rw [if_pos (by omega)] at hk
    generalize rn * 2 ^ (64 - b) = sh at *
    generalize hto : rs ||| sh % 18446744073709551616 = to at *
    have hset2 : (put u l1 (out.set i rs)).set (l1 + i) to = put u l1 (out.set i to) := by
     have := Y7 (us := u) (out := out.set i rs) (k := l1) (i := i) (v := to) (by rw [c2g]; omega) (by rw [c2g]; omega)
     rwa [List.set_set] at this
    have hi1n : ((i : Int) + 1).toNat = i + 1 := by omega
    (repeat first | refine uA ?_ | (refine uK ?_ ?_; focus first | omega | trivial | (intro h; rw [h]; rfl) | (intro h h2; rw [h, h2]; rfl) | (intro h; (try simp at h); omega) | (intros; simp_all <;> omega)) | simp only [go_sem, Nat.reduceBEq, Nat.reduceAdd, Nat.reduceLeDiff, Int.reduceToNat, Int.reducePow, u7, G9, hg1, hg2, hpl1, c1z, lm, hrr, hi1n, hshl, horl, V9, hset2] | simp (disch := omega) only [ww, u7, G9, hg1, hg2, hpl1, c1z, lm, hrr, hi1n, hshl, horl, V9, hset2])
    refine S.next (x := (i, out)) (i + 1, _) ⟨hi', hk.1⟩ (by simp only; omega) (Ent.mk _ _ (by (repeat first | refine uA ?_ | (refine ⟨?_, ?_⟩; focus first | rfl | trivial | (simp [slot]; done)) | rfl | trivial | simp)) (by (repeat first | refine uA ?_ | (refine ⟨?_, ?_⟩; focus first | rfl | trivial | (simp [slot]; done)) | rfl | trivial | simp)) hν0)
   ·have hk := hk _ rfl
    rw [if_neg (by omega)] at hk
    (repeat first | refine uA ?_ | (refine uK ?_ ?_; focus first | omega | trivial | (intro h; rw [h]; rfl) | (intro h h2; rw [h, h2]; rfl) | (intro h; (try simp at h); omega) | (intros; simp_all <;> omega)) | simp only [go_sem, Nat.reduceBEq, Nat.reduceAdd, Nat.reduceLeDiff, Int.reduceToNat, Int.reducePow] | simp (disch := omega) only [ww])
    refine S.next (x := (i, out)) (i + 1, _) ⟨hi', hk.1⟩ (by simp only; omega) (Ent.mk _ _ (by (repeat first | refine uA ?_ | (refine ⟨?_, ?_⟩; focus first | rfl | trivial | (simp [slot]; done)) | rfl | trivial | simp)) (by (repeat first | refine uA ?_ | (refine ⟨?_, ?_⟩; focus first | rfl | trivial | (simp [slot]; done)) | rfl | trivial | simp)) hν0)
  ·have hi' : i = p := by omega
   subst hi'
   rw [<- hrl] at hri
   have he := Nm.a4z hri (by omega) hW1
   have hd : out = Nm.dig 18446744073709551616 i z := Nm.U8 (by decide) hri.2.1 (by omega) he
   rw [<- hd]
   have hcut := fun (E : Ctx) (hP : E.P = Tryz.prog) => a6B (E := E) hP (match 0 with | 0 => true | _ => false) (put u l1 out) o l1 i (by omega) (by omega) (by omega)
   rw [a1F (by omega) (by omega)] at hcut
   (repeat first | refine uA ?_ | (refine uK ?_ ?_; focus first | omega | trivial | (intro h; rw [h]; rfl) | (intro h h2; rw [h, h2]; rfl) | (intro h; (try simp at h); omega) | (intros; simp_all <;> omega)) | simp only [go_sem, Nat.reduceBEq, Nat.reduceAdd, Nat.reduceLeDiff, Int.reduceToNat, Int.reducePow] | simp (disch := omega) only [ww] | refine l9.t (hcut _ rfl) ?_)
   exact S.done (d9.own rfl)
 ·have hb0 : b = 0 := by omega
  subst hb0
  rw [Nat.pow_zero, Nat.mul_one] at hW1
  have hd : r0 = Nm.dig 18446744073709551616 p z := Nm.U8 (by decide) hua1 hrl hW1
  have hcut := fun (E : Ctx) (hP : E.P = Tryz.prog) => a6B (E := E) hP (match 0 with | 0 => true | _ => false) u o l1 p (by omega) (by omega) (by omega)
  have hw : (u.drop l1).take p = r0 := by rw [<- hps]; exact a1F hrl.symm (by omega)
  rw [hw] at hcut
  rw [<- hd, hps]
  (repeat first | refine uA ?_ | (refine uK ?_ ?_; focus first | omega | trivial | (intro h; rw [h]; rfl) | (intro h h2; rw [h, h2]; rfl) | (intro h; (try simp at h); omega) | (intros; simp_all <;> omega)) | simp only [go_sem, Nat.reduceBEq, Nat.reduceAdd, Nat.reduceLeDiff, Int.reduceToNat, Int.reducePow] | simp (disch := omega) only [ww] | refine l9.t (hcut _ rfl) ?_)
  exact S.done (d9.own rfl)
structure Win (u : List Nat) (lo n v : Nat) : Prop where
 hn : lo + n <= u.length
 hlo : lo < u.length
 hl : u.length <= 17179869184
 ha : Nm.K4 u
 hv : Nm.wv 18446744073709551616 ((u.drop lo).take n) = v
 ht : Nm.F7 ((u.drop lo).take n) = (u.drop lo).take n
theorem Win.len {u : List Nat} {lo n v : Nat} (h : Win u lo n v) : ((u.drop lo).take n).length = n := by
 have := h.hn
 rw [c1M, c2l]; omega
theorem b4H {us a : List Nat} {k : Nat} (hu : Nm.K4 us) (ha : Nm.K4 a) : Nm.K4 (put us k a) := fun w hw => by
 simp only [put, List.mem_append] at hw
 rcases hw with (hw | hw) | hw
 ·exact hu w (List.mem_of_mem_take hw)
 ·exact ha w hw
 ·exact hu w (List.mem_of_mem_drop hw)
theorem Win.put {u : List Nat} {l1 p z : Nat} (h1 : l1 + p <= u.length) (h2 : l1 < u.length) (hl : u.length <= 17179869184) (ha : Nm.K4 u) (hz : z < 18446744073709551616 ^ p) :
  Win (put u l1 (Nm.dig 18446744073709551616 p z)) l1 (Nm.F7 (Nm.dig 18446744073709551616 p z)).length z := by
 have hpl : (Go.Proofs.YtogfpjohjphngaaGreatDoor.put u l1 (Nm.dig 18446744073709551616 p z)).length = u.length := Y8 (by rw [Nm.H6]; omega)
 have htl := Nm.b5S (Nm.dig 18446744073709551616 p z)
 rw [Nm.H6] at htl
 have hw : ((Go.Proofs.YtogfpjohjphngaaGreatDoor.put u l1 (Nm.dig 18446744073709551616 p z)).drop l1).take (Nm.F7 (Nm.dig 18446744073709551616 p z)).length = Nm.F7 (Nm.dig 18446744073709551616 p z) := by
  have e := a1F (us := u) (k := l1) (a := Nm.dig 18446744073709551616 p z) (n := p) (Nm.H6 _ _ _).symm (by rw [Nm.H6]; omega)
  have e2 := congrArg (List.take (Nm.F7 (Nm.dig 18446744073709551616 p z)).length) e
  rw [List.take_take, Nat.min_eq_left htl, Nm.b3p] at e2
  exact e2
 refine ⟨by rw [hpl]; omega, by rw [hpl]; exact h2, by rw [hpl]; exact hl, b4H ha (Nm.a0P (by decide) _ _), ?_, ?_⟩
 ·rw [hw, Nm.b6d, Nm.U3 hz]
 ·rw [hw]
  have h4 : ∀ l, Nm.F7 (Nm.F7 l) = Nm.F7 l := fun l => by
   by_cases h : Nm.F7 l = []
   ·rw [h]; rfl
   ·have h5 := Nm.a8g l h
    have h6 : Nm.F7 l = (Nm.F7 l).dropLast ++ [(Nm.F7 l).getLast h] := (List.dropLast_concat_getLast h).symm
    rw [h6, Nm.a3h h5]
  exact h4 _
theorem Win.last {u : List Nat} {lo n v : Nat} (h : Win u lo n v) : ∀ hh : (u.drop lo).take n ≠ [], ((u.drop lo).take n).getLast hh ≠ 0 := by
 have ht := h.ht
 generalize (u.drop lo).take n = x at *
 intro hh
 have := Nm.a8g x (by rw [ht]; exact hh)
 simpa only [ht] using this
theorem Win.all {u : List Nat} {lo n v : Nat} (h : Win u lo n v) : Nm.K4 ((u.drop lo).take n) := (h.ha.drop lo).take n
theorem Win.zero {u : List Nat} {lo n v : Nat} (h : Win u lo n v) (h0 : v = 0) : n = 0 := by
 rcases c1Y n with h1 | h1
 ·exact h1
 ·exfalso
  have hl := h.len
  have hla := h.last
  have hv := h.hv
  generalize (u.drop lo).take n = x at *
  have hne : x ≠ [] := fun e => by subst e; simp at hl; omega
  have h2 := Nm.b0J (B := 18446744073709551616) (l := x.dropLast) (hla hne)
  rw [List.dropLast_concat_getLast hne] at h2
  have := Nat.pow_pos (n := x.dropLast.length) (show 0 < 18446744073709551616 by decide)
  omega
theorem Win.nonzero {u : List Nat} {lo n v : Nat} (h : Win u lo n v) (h0 : n = 0) : v = 0 := by
 have := h.hv; subst h0; rw [<- this]; rfl
theorem Win.le {u o : List Nat} {lo n v lo2 n2 v2 : Nat} (h : Win u lo n v) (h2 : Win o lo2 n2 v2) (hle : v2 <= v) : n2 <= n := by
 rcases c1V n n2 with h1 | h1
 ·exfalso
  have hl := h2.len
  have hla := h2.last
  have hv := h2.hv
  have hl1 := Nm.J5 18446744073709551616 h.all
  rw [h.len, h.hv] at hl1
  generalize (o.drop lo2).take n2 = x at *
  have hne : x ≠ [] := fun e => by subst e; simp at hl; omega
  have h3 := Nm.b0J (B := 18446744073709551616) (l := x.dropLast) (hla hne)
  rw [List.dropLast_concat_getLast hne, List.length_dropLast] at h3
  have h4 : 18446744073709551616 ^ n <= 18446744073709551616 ^ (x.length - 1) := c2c (by decide) (by omega)
  omega
 ·exact h1
theorem Win.v2 {u : List Nat} {lo n v : Nat} (h : Win u lo n v) (h0 : v ≠ 0) : Nm.v2 v <= 70368744177664 := by
 obtain ⟨q, h1, h2⟩ := Nm.a2m h0
 have hl1 := Nm.J5 18446744073709551616 h.all
 rw [h.len, h.hv] at hl1
 have h3 : 2 ^ Nm.v2 v <= v := by
  conv => rhs; rw [h1]
  exact Nat.le_mul_of_pos_right _ (by omega)
 have h4 : 2 ^ Nm.v2 v < 2 ^ (64 * n) := by rw [Nat.pow_mul]; exact Nat.lt_of_le_of_lt h3 hl1
 have h5 := (Nat.pow_lt_pow_iff_right (by decide : 1 < 2)).1 h4
 have := h.hn; have := h.hl
 omega
namespace Nm
theorem b8R (n k : Nat) (h : k < 8) : (be8 n)[k]? = some (oB (n / 2 ^ (56 - 8 * k))) := by
 have : k = 0 \/ k = 1 \/ k = 2 \/ k = 3 \/ k = 4 \/ k = 5 \/ k = 6 \/ k = 7 := by omega
 rcases this with rfl | rfl | rfl | rfl | rfl | rfl | rfl | rfl <;> simp [be8]
theorem a6J (n : Nat) : (be8 n).length = 8 := rfl
def a1x (l : List Nat) : List UInt8 := (l.reverse.map be8).flatten
theorem a8d (l : List Nat) (x : Nat) : a1x (l ++ [x]) = be8 x ++ a1x l := by simp [a1x]
theorem a9D (r : List Nat) (h : K4 r.reverse) : (a1x r.reverse).length = 8 * r.length /\ val (a1x r.reverse) = wv 18446744073709551616 r.reverse := by
 induction r with
 | nil => exact ⟨rfl, rfl⟩
 | cons x r ih =>
  rw [List.reverse_cons] at h ⊢
  obtain ⟨h1, h2⟩ := ih fun w hw => h w (List.mem_append_left _ hw)
  rw [a8d, a6H, b2z, h1, h2, b2I (h x (by simp)), List.length_reverse, c1C, a6J, h1, c1T]
  refine ⟨by omega, ?_⟩
  rw [Nat.pow_mul, show (256 : Nat) ^ 8 = 18446744073709551616 by decide, Nat.mul_comm x, Nat.add_comm]
theorem a9i {l : List Nat} (h : K4 l) : (a1x l).length = 8 * l.length := by
 have := (a9D l.reverse (by simpa using h)).1
 simpa using this
theorem b5J {l : List Nat} (h : K4 l) : val (a1x l) = wv 18446744073709551616 l := by
 have := (a9D l.reverse (by simpa using h)).2
 simpa using this
def a1s (l : List Nat) (i k : Nat) : List UInt8 := List.replicate (8 * (l.length - 1 - i)) 0 ++ ((be8 (l.getD i 0)).take k ++ List.replicate (8 - k) 0) ++ a1x (l.take i)
def a3H (l : List Nat) (i : Nat) : List UInt8 := List.replicate (8 * (l.length - i)) 0 ++ a1x (l.take i)
theorem b4X (l : List Nat) : a3H l 0 = List.replicate (8 * l.length) 0 := by simp [a3H, a1x]
theorem b0E (l : List Nat) : a3H l l.length = a1x l := by simp [a3H]
theorem a9k {l : List Nat} {i : Nat} (h : i < l.length) : a1s l i 0 = a3H l i := by
 rw [a1s, a3H, List.take_zero, List.nil_append, Nat.sub_zero, List.replicate_append_replicate]
 congr 2; omega
theorem a7G {l : List Nat} {i : Nat} (h : i < l.length) : a1s l i 8 = a3H l (i + 1) := by
 have e : l.take (i + 1) = l.take i ++ [l.getD i 0] := by
  rw [List.take_add_one, c1O, c1x h]; rfl
 rw [a1s, a3H, e, a8d, c1W (by rw [a6J]; exact c1I _), Nat.sub_self, List.replicate_zero, List.append_nil, c2b]
 congr 3; omega
theorem b0o {l : List Nat} (hl : K4 l) {i k : Nat} (h : i < l.length) (hk : k <= 8) : (a1s l i k).length = 8 * l.length := by
 simp only [a1s, c1C, List.length_replicate, c1M, a6J, a9i (hl.take i), c1M]
 omega
theorem a9E {l : List Nat} {i k : Nat} (hk : k < 8) : (a1s l i k).set (8 * (l.length - 1 - i) + k) (oB (l.getD i 0 / 2 ^ (56 - 8 * k))) = a1s l i (k + 1) := by
 have e : (be8 (l.getD i 0)).take (k + 1) = (be8 (l.getD i 0)).take k ++ [oB (l.getD i 0 / 2 ^ (56 - 8 * k))] := by
  rw [List.take_add_one, b8R _ _ hk]; rfl
 have e2 : List.replicate (8 - k) (0 : UInt8) = 0 :: List.replicate (8 - (k + 1)) 0 := by rw [<- List.replicate_succ]; congr 1; omega
 have hlk : ((be8 (l.getD i 0)).take k).length = k := by rw [c1M, a6J]; omega
 rw [a1s, a1s, e, e2, List.set_append_left _ _ (by simp only [c1C, List.length_replicate, hlk, c1T]; omega), List.set_append_right _ _ (by simp), List.length_replicate, Nat.add_sub_cancel_left, List.set_append_right _ _ (by omega), hlk, Nat.sub_self, List.set_cons_zero, c2b (List.take k _), List.singleton_append]
theorem b5V (n : Nat) : val (oB (2 ^ (n % 8)) :: List.replicate (n / 8) 0) = 2 ^ n := by
 have h0 : val (List.replicate (n / 8) (0 : UInt8)) = 0 := by
  generalize n / 8 = k
  induction k with
  | zero => rfl
  | succ k ih => rw [List.replicate_succ, X9, ih]; simp
 have h1 : 2 ^ (n % 8) < 256 := by
  have : 2 ^ (n % 8) <= 2 ^ 7 := c2c (by decide) (by omega)
  omega
 rw [X9, h0, a1u, Nat.mod_eq_of_lt h1, List.length_replicate, Nat.add_zero, show (256 : Nat) = 2 ^ 8 by decide, <- Nat.pow_mul, <- Nat.pow_add]
 congr 1; omega
end Nm
structure Hv where
 s : Bool
 u : List Nat
 lo : Nat
 n : Nat
 v : Nat
 o : List Nat
 lo2 : Nat
 n2 : Nat
 v2 : Nat
theorem b6W (a b : List UInt8) (ha : a.length <= 68719476736) (hb : b.length <= 68719476736) (h0a : Nm.val a ≠ 0) (h0b : Nm.val b ≠ 0) : FZ 222 [sb a, sb b] (sb (Nm.enc (Nat.gcd (Nm.val a) (Nm.val b)))) := by
  refine kW Tryz.func222 (by cbv) (by rfl) fun w O hw => ?_
  simp only [j6, sb]
  have hla := b2V a (by omega)
  have hlb := b2V b (by omega)
  have hva := Nm.a8j a
  have hvb := Nm.a8j b
  have haa := Nm.a7J a
  have hab := Nm.a7J b
  have hna := Nm.a6O a
  have hnb := Nm.a6O b
  obtain ⟨za, hza, hoa⟩ := Nm.a2m h0a
  obtain ⟨zb, hzb, hob⟩ := Nm.a2m h0b
  have hG : Nat.gcd (Nm.val a) (Nm.val b) = 2 ^ (min (Nm.v2 (Nm.val a)) (Nm.v2 (Nm.val b))) * Nat.gcd za zb := by
    conv => lhs; rw [hza, hzb]
    exact Nm.b7t hoa hob
  rw [hG]
  have fea := a6u (Nm.O7 a) (by omega) haa (by rw [hva]; exact h0a)
  have feb := a6u (Nm.O7 b) (by omega) hab (by rw [hvb]; exact h0b)
  rw [hva] at fea
  rw [hvb] at feb
  have hba : Nm.v2 (Nm.val a) <= 549755813888 := by
    have h1 := Nm.Y4 a
    have h3 : 2 ^ Nm.v2 (Nm.val a) <= Nm.val a := by
      conv => rhs; rw [hza]
      exact Nat.le_mul_of_pos_right _ (by omega)
    have h4 : 2 ^ Nm.v2 (Nm.val a) < 2 ^ (8 * a.length) := by rw [Nat.pow_mul]; exact Nat.lt_of_le_of_lt h3 h1
    have h5 := (Nat.pow_lt_pow_iff_right (by decide : 1 < 2)).1 h4
    omega
  have hbb : Nm.v2 (Nm.val b) <= 549755813888 := by
    have h1 := Nm.Y4 b
    have h3 : 2 ^ Nm.v2 (Nm.val b) <= Nm.val b := by
      conv => rhs; rw [hzb]
      exact Nat.le_mul_of_pos_right _ (by omega)
    have h4 : 2 ^ Nm.v2 (Nm.val b) < 2 ^ (8 * b.length) := by rw [Nat.pow_mul]; exact Nat.lt_of_le_of_lt h3 h1
    have h5 := (Nat.pow_lt_pow_iff_right (by decide : 1 < 2)).1 h4
    omega
  have hla0 : 0 < (Nm.O7 a).length := by
    rcases c1Y (Nm.O7 a).length with h | h
    · have := List.length_eq_zero_iff.1 h
      rw [this] at hva; exact absurd hva.symm h0a
    · exact h
  have hlb0 : 0 < (Nm.O7 b).length := by
    rcases c1Y (Nm.O7 b).length with h | h
    · have := List.length_eq_zero_iff.1 h
      rw [this] at hvb; exact absurd hvb.symm h0b
    · exact h
  generalize Nm.v2 (Nm.val a) = p at *
  generalize Nm.v2 (Nm.val b) = q at *
  have hwa : Nm.wv 18446744073709551616 (((Nm.O7 a).drop 0).take (Nm.O7 a).length) = za * 2 ^ p := by
    rw [List.drop_zero, c1U, hva, hza, Nat.mul_comm]
  have hwb : Nm.wv 18446744073709551616 (((Nm.O7 b).drop 0).take (Nm.O7 b).length) = zb * 2 ^ q := by
    rw [List.drop_zero, c1U, hvb, hzb, Nat.mul_comm]
  clear hG hza hzb hva hvb h0a h0b
  generalize hA : Nm.O7 a = A at *
  generalize hB : Nm.O7 b = B at *
  have hr1 := fun (E : Ctx) (hP : E.P = Tryz.prog) => a6s (E := E) hP true A B 0 A.length p za (by omega) (by omega) (by omega) haa (by omega) hwa
  obtain ⟨hj1, hz1, _⟩ := hr1 ⟨Tryz.prog, eff, 0, w, fun _ => False, O, [], []⟩ rfl
  have hr1 := fun E hP => (hr1 E hP).2.2
  have hW1 := Win.put (u := A) (l1 := 0 + p / 64) (p := A.length - p / 64) (z := za) (by omega) (by omega) (by omega) haa hz1
  generalize hA1 : put A (0 + p / 64) (Nm.dig 18446744073709551616 (A.length - p / 64) za) = A1 at *
  generalize 0 + p / 64 = la at *
  generalize (Nm.F7 (Nm.dig 18446744073709551616 (A.length - p / 64) za)).length = na at *
  have hr2 := fun (E : Ctx) (hP : E.P = Tryz.prog) => a6s (E := E) hP false B A1 0 B.length q zb (by omega) (by omega) (by omega) hab (by omega) hwb
  obtain ⟨hj2, hz2, _⟩ := hr2 ⟨Tryz.prog, eff, 0, w, fun _ => False, O, [], []⟩ rfl
  have hr2 := fun E hP => (hr2 E hP).2.2
  have hW2 := Win.put (u := B) (l1 := 0 + q / 64) (p := B.length - q / 64) (z := zb) (by omega) (by omega) (by omega) hab hz2
  generalize hB1 : put B (0 + q / 64) (Nm.dig 18446744073709551616 (B.length - q / 64) zb) = B1 at *
  generalize 0 + q / 64 = lb at *
  generalize (Nm.F7 (Nm.dig 18446744073709551616 (B.length - q / 64) zb)).length = nb at *
  have hr1' : ∀ (E : Ctx), E.P = Tryz.prog -> l8 E [.row 189 1 (ls A), .row 189 1 (ls B)] 240 [.rv 0, ints p] (.wv 0 1 la na) [.row 189 1 (ls A1), .row 189 1 (ls B)] [] := fun E hP => l8.imp (hr1 E hP) (j5.cons (Imp.win (k := 0) (e := 189) (sz := 1) (es := ls A) rfl (u7 _).symm (by simp)) (j5.cons (Imp.refl rfl) j5.nil))
  have hr2' : ∀ (E : Ctx), E.P = Tryz.prog -> l8 E [.row 189 1 (ls A1), .row 189 1 (ls B)] 240 [.rv 1, ints q] (.wv 1 1 lb nb) [.row 189 1 (ls A1), .row 189 1 (ls B1)] [] := fun E hP => l8.imp (hr2 E hP) (j5.cons (Imp.win (k := 1) (e := 189) (sz := 1) (es := ls B) rfl (u7 _).symm (by simp)) (j5.cons (Imp.refl rfl) j5.nil))
  (repeat first | refine uA ?_ | (refine uK ?_ ?_; focus first | omega | trivial | (intro h; rw [h]; rfl) | (intro h h2; rw [h, h2]; rfl) | (intro h; (try simp at h); omega) | (intros; simp_all <;> omega)) | simp only [go_sem, Nat.reduceBEq, Nat.reduceAdd, Nat.reduceLeDiff, Int.reduceToNat, Int.reducePow] | simp (disch := omega) only [ww] | refine l9.t (FNew.t hla rfl) ?_ | refine l9.t (FNew.t hlb rfl) ?_ | refine l9.t (hr1' _ rfl) ?_ | refine l9.t (hr2' _ rfl) ?_ | (refine uE fea ?_ ?_ ?_ ?_; exact tz hw; exact rfl; focus (repeat' first | exact j5.nil | exact Imp.refl rfl | exact Imp.frz rfl rfl rfl | (refine Imp.M5 rfl rfl ?_ ?_; (focus ((try simp only [c1C]); omega)); (focus first | rfl | assumption)) | refine j5.cons ?_ ?_); done) | (refine uE feb ?_ ?_ ?_ ?_; exact tz hw; exact rfl; focus (repeat' first | exact j5.nil | exact Imp.refl rfl | exact Imp.frz rfl rfl rfl | (refine Imp.M5 rfl rfl ?_ ?_; (focus ((try simp only [c1C]); omega)); (focus first | rfl | assumption)) | refine j5.cons ?_ ?_); done))
  clear hr1 hr2 hr1' hr2' hla hlb fea feb hwa hwb hA hB hA1 hB1 hz1 hz2 hj1 hj2 haa hab hla0 hlb0 hna hnb
  have hmin : min p q <= 549755813888 := by omega
  generalize hG : Nat.gcd za zb = G at *
  refine S.b7z (Y := Hv) (fun x => ⟨[(5, .wv (kx x.s) 1 x.lo x.n), (6, .wv (kx !x.s) 1 x.lo2 x.n2), (7, ints p), (8, ints q)], rw2 x.s x.u x.o⟩)
    (fun x => Win x.u x.lo x.n x.v /\ Win x.o x.lo2 x.n2 x.v2 /\ ((x.n = 0 /\ x.v2 = G) \/ (x.n = 1 /\ x.n2 = 1 /\ Nat.gcd x.v x.v2 = G))) ?_ ?_
  · refine S.loop (X := Hv) (fun x => ⟨[(5, .wv (kx x.s) 1 x.lo x.n), (6, .wv (kx !x.s) 1 x.lo2 x.n2), (7, ints p), (8, ints q)], rw2 x.s x.u x.o⟩)
      (fun x => Win x.u x.lo x.n x.v /\ Win x.o x.lo2 x.n2 x.v2 /\ x.v % 2 = 1 /\ x.v2 % 2 = 1 /\ Nat.gcd x.v x.v2 = G) (fun x => x.v + x.v2) ⟨true, A1, la, na, za, B1, lb, nb, zb⟩ ⟨hW1, hW2, hoa, hob, hG⟩ (by (repeat first | refine uA ?_ | (refine ⟨?_, ?_⟩; focus first | rfl | trivial | (simp [slot]; done)) | rfl | trivial | simp)) ?_
    clear hW1 hW2 hG hoa hob
    rintro ⟨s, u, lo, n, v, o, lo2, n2, v2⟩ ⟨hW1, hW2, hoa, hob, hG⟩
    simp only [ints] at hW1 hW2 hoa hob hG ⊢
    (repeat first | refine uA ?_ | (refine uK ?_ ?_; focus first | omega | trivial | (intro h; rw [h]; rfl) | (intro h h2; rw [h, h2]; rfl) | (intro h; (try simp at h); omega) | (intros; simp_all <;> omega)) | simp only [go_sem, Nat.reduceBEq, Nat.reduceAdd, Nat.reduceLeDiff, Int.reduceToNat, Int.reducePow] | simp (disch := omega) only [ww])
    (refine uJ rfl (fun hc => ?_) fun hc => ?_)
    · refine S.skip ?_
      refine S.block ?_
      refine S.seq ?_
      have hl1 := hW1.hl
      have hl2 := hW2.hl
      have hn1 := hW1.hn
      have hn2 := hW2.hn
      have hwl : ∀ (u : List Nat) lo n, ls ((u.drop lo).take n) = ((ls u).drop lo).take n := fun u lo n => by simp [ls, List.map_drop, List.map_take]
      refine S.join (Y := Hv) (fun x => ⟨[(5, .wv (kx x.s) 1 x.lo x.n), (6, .wv (kx !x.s) 1 x.lo2 x.n2), (7, ints p), (8, ints q)], rw2 x.s x.u x.o⟩)
        (fun x => Win x.u x.lo x.n x.v /\ Win x.o x.lo2 x.n2 x.v2 /\ x.v % 2 = 1 /\ x.v2 % 2 = 1 /\ Nat.gcd x.v x.v2 = G /\ x.v2 <= x.v /\ x.v + x.v2 = v + v2) ?_ ?_
      · have hb := b9e ((u.drop lo).take n) ((o.drop lo2).take n2) (by rw [hW1.len]; omega) (by rw [hW2.len]; omega) hW1.all hW2.all hW1.last hW2.last
        rw [hwl, hwl, hW1.hv, hW2.hv] at hb
        cases s
        all_goals
          simp only [rw2, kx, Bool.not_true, Bool.not_false]
          (repeat first | refine uA ?_ | (refine uK ?_ ?_; focus first | omega | trivial | (intro h; rw [h]; rfl) | (intro h h2; rw [h, h2]; rfl) | (intro h; (try simp at h); omega) | (intros; simp_all <;> omega)) | simp only [go_sem, Nat.reduceBEq, Nat.reduceAdd, Nat.reduceLeDiff, Int.reduceToNat, Int.reducePow, u7] | simp (disch := omega) only [ww, u7] | (refine uC hb ?_ ?_ ?_; exact rfl; focus (repeat' first | exact j5.nil | exact Imp.refl rfl | exact Imp.frz rfl rfl rfl | (refine Imp.M5 rfl rfl ?_ ?_; (focus ((try simp only [c1C, u7]); omega)); (focus first | rfl | assumption)) | refine j5.cons ?_ ?_); done))
          refine S.cond rfl (fun hc => ?_) (fun hc => ?_)
          all_goals simp only [c1D, c1E] at hc
        · (repeat first | refine uA ?_ | (refine uK ?_ ?_; focus first | omega | trivial | (intro h; rw [h]; rfl) | (intro h h2; rw [h, h2]; rfl) | (intro h; (try simp at h); omega) | (intros; simp_all <;> omega)) | simp only [go_sem, Nat.reduceBEq, Nat.reduceAdd, Nat.reduceLeDiff, Int.reduceToNat, Int.reducePow] | simp (disch := omega) only [ww])
          exact S.met ⟨true, o, lo2, n2, v2, u, lo, n, v⟩ ⟨hW2, hW1, hob, hoa, by rw [Nat.gcd_comm]; exact hG, by simp only; omega, by simp only; omega⟩ (by (repeat first | refine uA ?_ | (refine ⟨?_, ?_⟩; focus first | rfl | trivial | (simp [slot]; done)) | rfl | trivial | simp))
        · (repeat first | refine uA ?_ | (refine uK ?_ ?_; focus first | omega | trivial | (intro h; rw [h]; rfl) | (intro h h2; rw [h, h2]; rfl) | (intro h; (try simp at h); omega) | (intros; simp_all <;> omega)) | simp only [go_sem, Nat.reduceBEq, Nat.reduceAdd, Nat.reduceLeDiff, Int.reduceToNat, Int.reducePow] | simp (disch := omega) only [ww])
          exact S.met ⟨false, u, lo, n, v, o, lo2, n2, v2⟩ ⟨hW1, hW2, hoa, hob, hG, by simp only; omega, rfl⟩ (by (repeat first | refine uA ?_ | (refine ⟨?_, ?_⟩; focus first | rfl | trivial | (simp [slot]; done)) | rfl | trivial | simp))
        · (repeat first | refine uA ?_ | (refine uK ?_ ?_; focus first | omega | trivial | (intro h; rw [h]; rfl) | (intro h h2; rw [h, h2]; rfl) | (intro h; (try simp at h); omega) | (intros; simp_all <;> omega)) | simp only [go_sem, Nat.reduceBEq, Nat.reduceAdd, Nat.reduceLeDiff, Int.reduceToNat, Int.reducePow] | simp (disch := omega) only [ww])
          exact S.met ⟨false, o, lo2, n2, v2, u, lo, n, v⟩ ⟨hW2, hW1, hob, hoa, by rw [Nat.gcd_comm]; exact hG, by simp only; omega, by simp only; omega⟩ (by (repeat first | refine uA ?_ | (refine ⟨?_, ?_⟩; focus first | rfl | trivial | (simp [slot]; done)) | rfl | trivial | simp))
        · (repeat first | refine uA ?_ | (refine uK ?_ ?_; focus first | omega | trivial | (intro h; rw [h]; rfl) | (intro h h2; rw [h, h2]; rfl) | (intro h; (try simp at h); omega) | (intros; simp_all <;> omega)) | simp only [go_sem, Nat.reduceBEq, Nat.reduceAdd, Nat.reduceLeDiff, Int.reduceToNat, Int.reducePow] | simp (disch := omega) only [ww])
          exact S.met ⟨true, u, lo, n, v, o, lo2, n2, v2⟩ ⟨hW1, hW2, hoa, hob, hG, by simp only; omega, rfl⟩ (by (repeat first | refine uA ?_ | (refine ⟨?_, ?_⟩; focus first | rfl | trivial | (simp [slot]; done)) | rfl | trivial | simp))
      clear hl1 hl2 hn1 hn2 hW1 hW2 hoa hob hG hc
      rintro ⟨s, u1, lo1, n1, x1, o1, lo3, n3, x3⟩ ⟨hW1, hW2, hoa, hob, hG, hle, hsum⟩
      simp only [ints] at hW1 hW2 hoa hob hG hle hsum ⊢
      have hl1 := hW1.hl
      have hl2 := hW2.hl
      have hn1 := hW1.hn
      have hn2 := hW2.hn
      have hlo1 := hW1.hlo
      have hlt1 : x1 < 18446744073709551616 ^ n1 := by
        have := Nm.J5 18446744073709551616 hW1.all
        rwa [hW1.len, hW1.hv] at this
      have hmin := fun (E : Ctx) (hP : E.P = Tryz.prog) (s : Bool) => b8i (E := E) hP s u1 o1 lo1 n1 lo3 n3 (by omega) (by omega) hn1 hlo1 hn2 (hW1.le hW2 hle) hW1.ha hW2.ha hW1.hv.symm hW2.hv.symm hle
      have hW3 := Win.put (u := u1) (l1 := lo1) (p := n1) (z := x1 - x3) hn1 hlo1 hl1 hW1.ha (by omega)
      generalize put u1 lo1 (Nm.dig 18446744073709551616 n1 (x1 - x3)) = u2 at *
      generalize (Nm.F7 (Nm.dig 18446744073709551616 n1 (x1 - x3))).length = m1 at *
      have hl3 := hW3.hl
      have hn3 := hW3.hn
      have hmt : ∀ E : Ctx, E.P = Tryz.prog -> l8 E [.row 189 1 (ls u1), .row 189 1 (ls o1)] 242 [.wv 0 1 lo1 n1, .wv 1 1 lo3 n3] (.wv 0 1 lo1 m1) [.row 189 1 (ls u2), .row 189 1 (ls o1)] [] := fun E hP => hmin E hP true
      have hmf : ∀ E : Ctx, E.P = Tryz.prog -> l8 E [.row 189 1 (ls o1), .row 189 1 (ls u1)] 242 [.wv 1 1 lo1 n1, .wv 0 1 lo3 n3] (.wv 1 1 lo1 m1) [.row 189 1 (ls o1), .row 189 1 (ls u2)] [] := fun E hP => hmin E hP false
      clear hmin
      cases s
      all_goals
        simp only [rw2, kx, Bool.not_true, Bool.not_false]
        (repeat first | refine uA ?_ | (refine uK ?_ ?_; focus first | omega | trivial | (intro h; rw [h]; rfl) | (intro h h2; rw [h, h2]; rfl) | (intro h; (try simp at h); omega) | (intros; simp_all <;> omega)) | simp only [go_sem, Nat.reduceBEq, Nat.reduceAdd, Nat.reduceLeDiff, Int.reduceToNat, Int.reducePow, u7] | simp (disch := omega) only [ww, u7] | refine l9.t (hmt _ rfl) ?_ | refine l9.t (hmf _ rfl) ?_)
        (refine uJ rfl (fun hc => ?_) fun hc => ?_)
      · (repeat first | refine uA ?_ | (refine uK ?_ ?_; focus first | omega | trivial | (intro h; rw [h]; rfl) | (intro h h2; rw [h, h2]; rfl) | (intro h; (try simp at h); omega) | (intros; simp_all <;> omega)) | simp only [go_sem, Nat.reduceBEq, Nat.reduceAdd, Nat.reduceLeDiff, Int.reduceToNat, Int.reducePow] | simp (disch := omega) only [ww])
        have h0 := hW3.nonzero (by omega)
        have h1 : x1 = x3 := by omega
        subst h1
        rw [Nat.gcd_self] at hG
        exact S.met ⟨false, u2, lo1, m1, x1 - x1, o1, lo3, n3, x1⟩ ⟨hW3, hW2, .inl ⟨by simp only; omega, hG⟩⟩ (by (repeat first | refine uA ?_ | (refine ⟨?_, ?_⟩; focus first | rfl | trivial | (simp [slot]; done)) | rfl | trivial | simp))
      · have h0 : x1 - x3 ≠ 0 := fun h => by have := hW3.zero h; omega
        obtain ⟨z, hz, hoz⟩ := Nm.a2m h0
        have hev := a6u ((u2.drop lo1).take m1) (by rw [hW3.len]; omega) hW3.all (by rw [hW3.hv]; exact h0)
        rw [hwl, hW3.hv] at hev
        have heb := hW3.v2 h0
        generalize Nm.v2 (x1 - x3) = e at *
        have hrg := fun (E : Ctx) (hP : E.P = Tryz.prog) => a6s (E := E) hP false u2 o1 lo1 m1 e z (by omega) hn3 heb hW3.ha (by omega) (by rw [hW3.hv, hz, Nat.mul_comm])
        obtain ⟨hj, hz2, _⟩ := hrg ⟨Tryz.prog, eff, 0, w, fun _ => False, O, [], []⟩ rfl
        have hrg := fun E hP => (hrg E hP).2.2
        have hW4 := Win.put (u := u2) (l1 := lo1 + e / 64) (p := m1 - e / 64) (z := z) (by omega) (by omega) hl3 hW3.ha hz2
        generalize put u2 (lo1 + e / 64) (Nm.dig 18446744073709551616 (m1 - e / 64) z) = u4 at *
        generalize lo1 + e / 64 = lo4 at *
        generalize (Nm.F7 (Nm.dig 18446744073709551616 (m1 - e / 64) z)).length = m4 at *
        have hrg' : ∀ (E : Ctx), E.P = Tryz.prog -> l8 E [.row 189 1 (ls o1), .row 189 1 (ls u2)] 240 [.wv 1 1 lo1 m1, ints e] (.wv 1 1 lo4 m4) [.row 189 1 (ls o1), .row 189 1 (ls u4)] [] := fun E hP => hrg E hP
        have hgz : Nat.gcd z x3 = G := by
          have h1 := Nm.a5l (d := z) hob e
          rw [<- h1, <- hz, Nm.a9q hle, hG]
        have hzle : z <= x1 - x3 := by
          conv => rhs; rw [hz]
          exact Nat.le_mul_of_pos_left _ (Nat.pow_pos (by decide))
        (repeat first | refine uA ?_ | (refine uK ?_ ?_; focus first | omega | trivial | (intro h; rw [h]; rfl) | (intro h h2; rw [h, h2]; rfl) | (intro h; (try simp at h); omega) | (intros; simp_all <;> omega)) | simp only [go_sem, Nat.reduceBEq, Nat.reduceAdd, Nat.reduceLeDiff, Int.reduceToNat, Int.reducePow, u7] | simp (disch := omega) only [ww, u7] | refine l9.t (hrg' _ rfl) ?_ | (refine uE hev ?_ ?_ ?_ ?_; exact tz hw; exact rfl; focus (repeat' first | exact j5.nil | exact Imp.refl rfl | exact Imp.frz rfl rfl rfl | (refine Imp.M5 rfl rfl ?_ ?_; (focus ((try simp only [c1C, u7]); omega)); (focus first | rfl | assumption)) | refine j5.cons ?_ ?_); done))
        refine S.next (x := (⟨true, u, lo, n, v, o, lo2, n2, v2⟩ : Hv)) (⟨false, u4, lo4, m4, z, o1, lo3, n3, x3⟩ : Hv) ⟨hW4, hW2, hoz, hob, hgz⟩ (by simp only; omega) (by (repeat first | refine uA ?_ | (refine ⟨?_, ?_⟩; focus first | rfl | trivial | (simp [slot]; done)) | rfl | trivial | simp))
      · (repeat first | refine uA ?_ | (refine uK ?_ ?_; focus first | omega | trivial | (intro h; rw [h]; rfl) | (intro h h2; rw [h, h2]; rfl) | (intro h; (try simp at h); omega) | (intros; simp_all <;> omega)) | simp only [go_sem, Nat.reduceBEq, Nat.reduceAdd, Nat.reduceLeDiff, Int.reduceToNat, Int.reducePow] | simp (disch := omega) only [ww])
        have h0 := hW3.nonzero (by omega)
        have h1 : x1 = x3 := by omega
        subst h1
        rw [Nat.gcd_self] at hG
        exact S.met ⟨true, u2, lo1, m1, x1 - x1, o1, lo3, n3, x1⟩ ⟨hW3, hW2, .inl ⟨by simp only; omega, hG⟩⟩ (by (repeat first | refine uA ?_ | (refine ⟨?_, ?_⟩; focus first | rfl | trivial | (simp [slot]; done)) | rfl | trivial | simp))
      · have h0 : x1 - x3 ≠ 0 := fun h => by have := hW3.zero h; omega
        obtain ⟨z, hz, hoz⟩ := Nm.a2m h0
        have hev := a6u ((u2.drop lo1).take m1) (by rw [hW3.len]; omega) hW3.all (by rw [hW3.hv]; exact h0)
        rw [hwl, hW3.hv] at hev
        have heb := hW3.v2 h0
        generalize Nm.v2 (x1 - x3) = e at *
        have hrg := fun (E : Ctx) (hP : E.P = Tryz.prog) => a6s (E := E) hP true u2 o1 lo1 m1 e z (by omega) hn3 heb hW3.ha (by omega) (by rw [hW3.hv, hz, Nat.mul_comm])
        obtain ⟨hj, hz2, _⟩ := hrg ⟨Tryz.prog, eff, 0, w, fun _ => False, O, [], []⟩ rfl
        have hrg := fun E hP => (hrg E hP).2.2
        have hW4 := Win.put (u := u2) (l1 := lo1 + e / 64) (p := m1 - e / 64) (z := z) (by omega) (by omega) hl3 hW3.ha hz2
        generalize put u2 (lo1 + e / 64) (Nm.dig 18446744073709551616 (m1 - e / 64) z) = u4 at *
        generalize lo1 + e / 64 = lo4 at *
        generalize (Nm.F7 (Nm.dig 18446744073709551616 (m1 - e / 64) z)).length = m4 at *
        have hrg' : ∀ (E : Ctx), E.P = Tryz.prog -> l8 E [.row 189 1 (ls u2), .row 189 1 (ls o1)] 240 [.wv 0 1 lo1 m1, ints e] (.wv 0 1 lo4 m4) [.row 189 1 (ls u4), .row 189 1 (ls o1)] [] := fun E hP => hrg E hP
        have hgz : Nat.gcd z x3 = G := by
          have h1 := Nm.a5l (d := z) hob e
          rw [<- h1, <- hz, Nm.a9q hle, hG]
        have hzle : z <= x1 - x3 := by
          conv => rhs; rw [hz]
          exact Nat.le_mul_of_pos_left _ (Nat.pow_pos (by decide))
        (repeat first | refine uA ?_ | (refine uK ?_ ?_; focus first | omega | trivial | (intro h; rw [h]; rfl) | (intro h h2; rw [h, h2]; rfl) | (intro h; (try simp at h); omega) | (intros; simp_all <;> omega)) | simp only [go_sem, Nat.reduceBEq, Nat.reduceAdd, Nat.reduceLeDiff, Int.reduceToNat, Int.reducePow, u7] | simp (disch := omega) only [ww, u7] | refine l9.t (hrg' _ rfl) ?_ | (refine uE hev ?_ ?_ ?_ ?_; exact tz hw; exact rfl; focus (repeat' first | exact j5.nil | exact Imp.refl rfl | exact Imp.frz rfl rfl rfl | (refine Imp.M5 rfl rfl ?_ ?_; (focus ((try simp only [c1C, u7]); omega)); (focus first | rfl | assumption)) | refine j5.cons ?_ ?_); done))
        refine S.next (x := (⟨true, u, lo, n, v, o, lo2, n2, v2⟩ : Hv)) (⟨true, u4, lo4, m4, z, o1, lo3, n3, x3⟩ : Hv) ⟨hW4, hW2, hoz, hob, hgz⟩ (by simp only; omega) (by (repeat first | refine uA ?_ | (refine ⟨?_, ?_⟩; focus first | rfl | trivial | (simp [slot]; done)) | rfl | trivial | simp))
    · (repeat first | refine uA ?_ | (refine uK ?_ ?_; focus first | omega | trivial | (intro h; rw [h]; rfl) | (intro h h2; rw [h, h2]; rfl) | (intro h; (try simp at h); omega) | (intros; simp_all <;> omega)) | simp only [go_sem, Nat.reduceBEq, Nat.reduceAdd, Nat.reduceLeDiff, Int.reduceToNat, Int.reducePow] | simp (disch := omega) only [ww])
      have ha1 : n <= 1 /\ n2 <= 1 := by omega
      have hz1 : n ≠ 0 := fun h => by have := hW1.nonzero h; omega
      have hz2 : n2 ≠ 0 := fun h => by have := hW2.nonzero h; omega
      exact S.met ⟨s, u, lo, n, v, o, lo2, n2, v2⟩ ⟨hW1, hW2,   .inr ⟨by simp only; omega, by simp only; omega, hG⟩⟩ (by cases s <;> exact (by (repeat first | refine uA ?_ | (refine ⟨?_, ?_⟩; focus first | rfl | trivial | (simp [slot]; done)) | rfl | trivial | simp)))
  clear hW1 hW2 hG hoa hob
  rintro ⟨s, u, lo, n, v, o, lo2, n2, v2⟩ ⟨hW1, hW2, hcs⟩
  simp only [ints] at hW1 hW2 hcs ⊢
  refine S.seq ?_
  have hl1 := hW1.hl
  have hl2 := hW2.hl
  have hn1 := hW1.hn
  have hn2 := hW2.hn
  have hlo1 := hW1.hlo
  have hlo2 := hW2.hlo
  refine S.join (Y := Bool × List Nat × List Nat) (fun x => ⟨[(6, .wv (kx !x.1) 1 lo2 n2), (7, ints p), (8, ints q)], rw2 x.1 x.2.1 x.2.2⟩)
    (fun x => x.2.2.length = o.length /\ Nm.K4 x.2.2 /\ Nm.wv 18446744073709551616 ((x.2.2.drop lo2).take n2) = G) ?_ ?_
  · have one : ∀ {u : List Nat} {lo v : Nat}, Win u lo 1 v -> u[lo]? = some v /\ v < 18446744073709551616 := fun {u lo v} h => by
      have hg : u[lo]? = some (u[lo]'h.hlo) := c1x h.hlo
      have h1 := h.hv
      have h2 : (u.drop lo).take 1 = [u[lo]'h.hlo] := by rw [List.drop_eq_getElem_cons h.hlo]; rfl
      rw [h2] at h1
      simp only [Nm.wv] at h1
      have h3 := h.ha _ (c1N h.hlo)
      rw [Nat.mul_zero, Nat.add_zero] at h1
      rw [hg, h1]
      exact ⟨rfl, by omega⟩
    (repeat first | refine uA ?_ | (refine uK ?_ ?_; focus first | omega | trivial | (intro h; rw [h]; rfl) | (intro h h2; rw [h, h2]; rfl) | (intro h; (try simp at h); omega) | (intros; simp_all <;> omega)) | simp only [go_sem, Nat.reduceBEq, Nat.reduceAdd, Nat.reduceLeDiff, Int.reduceToNat, Int.reducePow] | simp (disch := omega) only [ww])
    (refine uJ rfl (fun hc => ?_) fun hc => ?_)
    · have hn : n = 1 := by omega
      have hm : n2 = 1 := by omega
      subst hn hm
      obtain ⟨g1, b1⟩ := one hW1
      obtain ⟨g2, b2⟩ := one hW2
      have hg : Nat.gcd v v2 = G := by rcases hcs with h | h; exact absurd h.1 (by decide); exact h.2.2
      have hco := b1q v v2 b1 b2
      rw [hg] at hco
      have hres : Nm.wv 18446744073709551616 (((o.set lo2 G).drop lo2).take 1) = G := by
        rw [List.drop_eq_getElem_cons (by rw [c2g]; exact hlo2), List.getElem_set_self]
        simp [Nm.wv]
      have hG64 : G < 18446744073709551616 := by
        have : v2 ≠ 0 := fun h => by have := hW2.zero h; omega
        have := Nat.gcd_le_right v (show 0 < v2 by omega)
        omega
      cases s
      all_goals
        simp only [rw2, kx, Bool.not_true, Bool.not_false]
        (repeat first | refine uA ?_ | (refine uK ?_ ?_; focus first | omega | trivial | (intro h; rw [h]; rfl) | (intro h h2; rw [h, h2]; rfl) | (intro h; (try simp at h); omega) | (intros; simp_all <;> omega)) | simp only [go_sem, Nat.reduceBEq, Nat.reduceAdd, Nat.reduceLeDiff, Int.reduceToNat, Int.reducePow, u7, G9, g1, g2, c1z, lm, Nat.add_zero, V9] | simp (disch := omega) only [ww, u7, G9, g1, g2, c1z, lm, Nat.add_zero, V9] | (refine uB hco ?_ ?_; exact rfl))
      · exact S.met (⟨false, u, o.set lo2 G⟩ : Bool × List Nat × List Nat) ⟨by simp, fun w hw => by
          rcases Nm.mem_set hw with rfl | hw
          · exact hG64
          · exact hW2.ha w hw, hres⟩ (by (repeat first | refine uA ?_ | (refine ⟨?_, ?_⟩; focus first | rfl | trivial | (simp [slot]; done)) | rfl | trivial | simp))
      · exact S.met (⟨true, u, o.set lo2 G⟩ : Bool × List Nat × List Nat) ⟨by simp, fun w hw => by
          rcases Nm.mem_set hw with rfl | hw
          · exact hG64
          · exact hW2.ha w hw, hres⟩ (by (repeat first | refine uA ?_ | (refine ⟨?_, ?_⟩; focus first | rfl | trivial | (simp [slot]; done)) | rfl | trivial | simp))
    · (repeat first | refine uA ?_ | (refine uK ?_ ?_; focus first | omega | trivial | (intro h; rw [h]; rfl) | (intro h h2; rw [h, h2]; rfl) | (intro h; (try simp at h); omega) | (intros; simp_all <;> omega)) | simp only [go_sem, Nat.reduceBEq, Nat.reduceAdd, Nat.reduceLeDiff, Int.reduceToNat, Int.reducePow] | simp (disch := omega) only [ww])
      have hg : v2 = G := by
        rcases hcs with h | h
        · exact h.2
        · omega
      exact S.met (⟨s, u, o⟩ : Bool × List Nat × List Nat) ⟨rfl, hW2.ha, by rw [<- hg]; exact hW2.hv⟩ (by cases s <;> exact (by (repeat first | refine uA ?_ | (refine ⟨?_, ?_⟩; focus first | rfl | trivial | (simp [slot]; done)) | rfl | trivial | simp)))
  rintro ⟨s', u', o'⟩ ⟨ho1, ho2, ho3⟩
  simp only [ints] at ho1 ho2 ho3 ⊢
  have hul : ((o'.drop lo2).take n2).length = n2 := by rw [c1M, c2l]; omega
  have hua : Nm.K4 ((o'.drop lo2).take n2) := (ho2.drop lo2).take _
  have hgw : ∀ i, i < n2 -> o'[lo2 + i]? = ((o'.drop lo2).take n2)[i]? := fun i hi => by rw [List.getElem?_take_of_lt hi, c2m]
  generalize (o'.drop lo2).take n2 = W at *
  have hfm := a2A (Nm.a1x W) (Nm.oB (2 ^ (min p q % 8)) :: List.replicate (min p q / 8) 0) (by rw [Nm.a9i hua]; omega) (by rw [c1T, List.length_replicate]; omega)
  rw [Nm.b5V, Nm.b5J hua, ho3, Nat.mul_comm] at hfm
  have hWl : W.length <= 17179869184 := by omega
  have hz8 : List.replicate (8 * (n2 : Int)).toNat [C.v (.int .u8 0)] = (Nm.a3H W 0).map F8 := by
    rw [Nm.b4X, <- a2w, show (8 * (n2 : Int)).toNat = 8 * W.length by omega]
  have hqm : IntKind.i64.wrap (((min p q : Nat) : Int).tdiv 8) = ((min p q / 8 : Nat) : Int) := b3Q _ (by omega)
  have hmn : (if (q : Int) < (p : Int) then (q : Int) else (p : Int)) = ((min p q : Nat) : Int) := by split <;> omega
  generalize min p q = r at *
  clear hW1 hW2 hcs hn1 hl1 hlo1 ho3
  cases s'
  all_goals
    simp only [rw2, kx, Bool.not_true, Bool.not_false]
    (repeat first | refine uA ?_ | (refine uK ?_ ?_; focus first | omega | trivial | (intro h; rw [h]; rfl) | (intro h h2; rw [h, h2]; rfl) | (intro h; (try simp at h); omega) | (intros; simp_all <;> omega)) | simp only [go_sem, Nat.reduceBEq, Nat.reduceAdd, Nat.reduceLeDiff, Int.reduceToNat, Int.reducePow, u7, hz8] | simp (disch := omega) only [ww, u7, hz8])
  · refine S.loop (X := Nat) (fun i => ⟨[(6, .wv 0 1 lo2 n2), (7, ints p), (8, ints q), (9, .rv 2), (72, .wv 0 1 lo2 n2), (73, ints n2), (74, ints i)], [.row 189 1 (ls o'), .row 189 1 (ls u')] ++ [.row 5 1 ((Nm.a3H W i).map F8)]⟩) (fun i => i <= n2) (fun i => n2 - i) 0 (c1H _) (by (repeat first | refine uA ?_ | (refine ⟨?_, ?_⟩; focus first | rfl | trivial | (simp [slot]; done)) | rfl | trivial | simp)) ?_
    intro i hi
    simp only [ints, List.cons_append, List.nil_append]
    (repeat first | refine uA ?_ | (refine uK ?_ ?_; focus first | omega | trivial | (intro h; rw [h]; rfl) | (intro h h2; rw [h, h2]; rfl) | (intro h; (try simp at h); omega) | (intros; simp_all <;> omega)) | simp only [go_sem, Nat.reduceBEq, Nat.reduceAdd, Nat.reduceLeDiff, Int.reduceToNat, Int.reducePow] | simp (disch := omega) only [ww])
    (refine uJ rfl (fun hc => ?_) fun hc => ?_)
    · have hi' : i < n2 := by omega
      have hiW : i < W.length := by omega
      have hgo : o'[lo2 + i]? = some (W[i]'hiW) := by rw [hgw i hi', c1x hiW]
      have hgd : W.getD i 0 = W[i]'hiW := Nm.getD_lt hiW
      (repeat first | refine uA ?_ | (refine uK ?_ ?_; focus first | omega | trivial | (intro h; rw [h]; rfl) | (intro h h2; rw [h, h2]; rfl) | (intro h; (try simp at h); omega) | (intros; simp_all <;> omega)) | simp only [go_sem, Nat.reduceBEq, Nat.reduceAdd, Nat.reduceLeDiff, Int.reduceToNat, Int.reducePow, u7, G9, hgo, c1z, lm] | simp (disch := omega) only [ww, u7, G9, hgo, c1z, lm])
      rw [<- Nm.a9k hiW]
      refine S.loop (X := Nat) (fun k => ⟨[(6, .wv 0 1 lo2 n2), (7, ints p), (8, ints q), (9, .rv 2), (72, .wv 0 1 lo2 n2), (73, ints n2), (74, ints i), (10, ints i), (11, .v (.int .u64 (W[i]'hiW : Int))), (79, ints k)], [.row 189 1 (ls o'), .row 189 1 (ls u')] ++ [.row 5 1 ((Nm.a1s W i k).map F8)]⟩) (fun k => k <= 8) (fun k => 8 - k) 0 (c1H _) (by (repeat first | refine uA ?_ | (refine ⟨?_, ?_⟩; focus first | rfl | trivial | (simp [slot]; done)) | rfl | trivial | simp)) ?_
      intro k hk
      simp only [ints, List.cons_append, List.nil_append]
      have hlk := Nm.b0o hua hiW hk
      (repeat first | refine uA ?_ | (refine uK ?_ ?_; focus first | omega | trivial | (intro h; rw [h]; rfl) | (intro h h2; rw [h, h2]; rfl) | (intro h; (try simp at h); omega) | (intros; simp_all <;> omega)) | simp only [go_sem, Nat.reduceBEq, Nat.reduceAdd, Nat.reduceLeDiff, Int.reduceToNat, Int.reducePow] | simp (disch := omega) only [ww])
      (refine uJ rfl (fun hc => ?_) fun hc => ?_)
      · have hk' : k < 8 := by omega
        have hst := Nm.a9E (l := W) (i := i) hk'
        rw [hgd] at hst
        have hbv : IntKind.u8.wrap (Int.fdiv ((W[i]'hiW : Nat) : Int) (2 ^ min (56 - 8 * (k : Int)).toNat 64)) = (((Nm.oB ((W[i]'hiW) / 2 ^ (56 - 8 * k))).toNat : Nat) : Int) := by
          rw [<- a5m, show min (56 - 8 * (k : Int)).toNat 64 = 56 - 8 * k by omega]
          congr 2
        have hix : (8 * ((n2 : Int) - 1 - (i : Int)) + (k : Int)).toNat = 8 * (W.length - 1 - i) + k := by omega
        have hgk : (Nm.a1s W i k)[8 * (W.length - 1 - i) + k]? = some ((Nm.a1s W i k)[8 * (W.length - 1 - i) + k]'(by omega)) := c1x (by omega)
        (repeat first | refine uA ?_ | (refine uK ?_ ?_; focus first | omega | trivial | (intro h; rw [h]; rfl) | (intro h h2; rw [h, h2]; rfl) | (intro h; (try simp at h); omega) | (intros; simp_all <;> omega)) | simp only [go_sem, Nat.reduceBEq, Nat.reduceAdd, Nat.reduceLeDiff, Int.reduceToNat, Int.reducePow, u7, c1y, hbv, hix, c2n, hgk, c1z, F8, a2U, hst] | simp (disch := omega) only [ww, u7, c1y, hbv, hix, c2n, hgk, c1z, F8, a2U, hst])
        refine S.next (x := k) (k + 1) hk' (by omega) (by (repeat first | refine uA ?_ | (refine ⟨?_, ?_⟩; focus first | rfl | trivial | (simp [slot]; done)) | rfl | trivial | simp))
      · have hk8 : k = 8 := by omega
        subst hk8
        rw [Nm.a7G hiW]
        (repeat first | refine uA ?_ | (refine uK ?_ ?_; focus first | omega | trivial | (intro h; rw [h]; rfl) | (intro h h2; rw [h, h2]; rfl) | (intro h; (try simp at h); omega) | (intros; simp_all <;> omega)) | simp only [go_sem, Nat.reduceBEq, Nat.reduceAdd, Nat.reduceLeDiff, Int.reduceToNat, Int.reducePow] | simp (disch := omega) only [ww])
        refine S.next (x := i) (i + 1) hi' (by omega) (by (repeat first | refine uA ?_ | (refine ⟨?_, ?_⟩; focus first | rfl | trivial | (simp [slot]; done)) | rfl | trivial | simp))
    · have hi' : i = n2 := by omega
      subst hi'
      rw [<- hul, Nm.b0E]
      have hr1 : ((r / 8 : Nat) : Int) + 1 = ((r / 8 + 1 : Nat) : Int) := by omega
      have hrep : List.replicate (((r / 8 + 1 : Nat) : Int)).toNat [C.v (.int .u8 0)] = (List.replicate (r / 8 + 1) (0 : UInt8)).map F8 := by rw [<- a2w]; rfl
      have hrm : (r : Int).tmod 8 = ((r % 8 : Nat) : Int) := a7z r
      have hpw : IntKind.u8.wrap (1 * 2 ^ min (r % 8) 8) = (((Nm.oB (2 ^ (r % 8))).toNat : Nat) : Int) := by
        rw [show min (r % 8) 8 = r % 8 by omega, Nm.a1u, <- a1t]; congr 1; simp
      have hby : V8 ([C.v (.int .u8 (((Nm.oB (2 ^ (r % 8))).toNat : Nat) : Int))] :: List.replicate (r / 8) [C.v (.int .u8 0)]) = some (Nm.oB (2 ^ (r % 8)) :: List.replicate (r / 8) 0) := by
        rw [a2w]; exact Q5 (Nm.oB (2 ^ (r % 8)) :: List.replicate (r / 8) 0)
      (repeat first | refine uA ?_ | (refine uK ?_ ?_; focus first | omega | trivial | (intro h; rw [h]; rfl) | (intro h h2; rw [h, h2]; rfl) | (intro h; (try simp at h); omega) | (intros; simp_all <;> omega)) | simp only [go_sem, Nat.reduceBEq, Nat.reduceAdd, Nat.reduceLeDiff, Int.reduceToNat, Int.reducePow, hmn, hqm, hr1, hrep, hrm, hpw, hby, Q5, a1P, F8, c1B] | simp (disch := omega) only [ww, hmn, hqm, hr1, hrep, hrm, hpw, hby, Q5, a1P, F8, c1B] | (refine uB hfm ?_ ?_; exact rfl))
      exact S.done (d9.out rfl (Imp.refl rfl) rfl)
  · refine S.loop (X := Nat) (fun i => ⟨[(6, .wv 1 1 lo2 n2), (7, ints p), (8, ints q), (9, .rv 2), (72, .wv 1 1 lo2 n2), (73, ints n2), (74, ints i)], [.row 189 1 (ls u'), .row 189 1 (ls o')] ++ [.row 5 1 ((Nm.a3H W i).map F8)]⟩) (fun i => i <= n2) (fun i => n2 - i) 0 (c1H _) (by (repeat first | refine uA ?_ | (refine ⟨?_, ?_⟩; focus first | rfl | trivial | (simp [slot]; done)) | rfl | trivial | simp)) ?_
    intro i hi
    simp only [ints, List.cons_append, List.nil_append]
    (repeat first | refine uA ?_ | (refine uK ?_ ?_; focus first | omega | trivial | (intro h; rw [h]; rfl) | (intro h h2; rw [h, h2]; rfl) | (intro h; (try simp at h); omega) | (intros; simp_all <;> omega)) | simp only [go_sem, Nat.reduceBEq, Nat.reduceAdd, Nat.reduceLeDiff, Int.reduceToNat, Int.reducePow] | simp (disch := omega) only [ww])
    (refine uJ rfl (fun hc => ?_) fun hc => ?_)
    · have hi' : i < n2 := by omega
      have hiW : i < W.length := by omega
      have hgo : o'[lo2 + i]? = some (W[i]'hiW) := by rw [hgw i hi', c1x hiW]
      have hgd : W.getD i 0 = W[i]'hiW := Nm.getD_lt hiW
      (repeat first | refine uA ?_ | (refine uK ?_ ?_; focus first | omega | trivial | (intro h; rw [h]; rfl) | (intro h h2; rw [h, h2]; rfl) | (intro h; (try simp at h); omega) | (intros; simp_all <;> omega)) | simp only [go_sem, Nat.reduceBEq, Nat.reduceAdd, Nat.reduceLeDiff, Int.reduceToNat, Int.reducePow, u7, G9, hgo, c1z, lm] | simp (disch := omega) only [ww, u7, G9, hgo, c1z, lm])
      rw [<- Nm.a9k hiW]
      refine S.loop (X := Nat) (fun k => ⟨[(6, .wv 1 1 lo2 n2), (7, ints p), (8, ints q), (9, .rv 2), (72, .wv 1 1 lo2 n2), (73, ints n2), (74, ints i), (10, ints i), (11, .v (.int .u64 (W[i]'hiW : Int))), (79, ints k)], [.row 189 1 (ls u'), .row 189 1 (ls o')] ++ [.row 5 1 ((Nm.a1s W i k).map F8)]⟩) (fun k => k <= 8) (fun k => 8 - k) 0 (c1H _) (by (repeat first | refine uA ?_ | (refine ⟨?_, ?_⟩; focus first | rfl | trivial | (simp [slot]; done)) | rfl | trivial | simp)) ?_
      intro k hk
      simp only [ints, List.cons_append, List.nil_append]
      have hlk := Nm.b0o hua hiW hk
      (repeat first | refine uA ?_ | (refine uK ?_ ?_; focus first | omega | trivial | (intro h; rw [h]; rfl) | (intro h h2; rw [h, h2]; rfl) | (intro h; (try simp at h); omega) | (intros; simp_all <;> omega)) | simp only [go_sem, Nat.reduceBEq, Nat.reduceAdd, Nat.reduceLeDiff, Int.reduceToNat, Int.reducePow] | simp (disch := omega) only [ww])
      (refine uJ rfl (fun hc => ?_) fun hc => ?_)
      · have hk' : k < 8 := by omega
        have hst := Nm.a9E (l := W) (i := i) hk'
        rw [hgd] at hst
        have hbv : IntKind.u8.wrap (Int.fdiv ((W[i]'hiW : Nat) : Int) (2 ^ min (56 - 8 * (k : Int)).toNat 64)) = (((Nm.oB ((W[i]'hiW) / 2 ^ (56 - 8 * k))).toNat : Nat) : Int) := by
          rw [<- a5m, show min (56 - 8 * (k : Int)).toNat 64 = 56 - 8 * k by omega]
          congr 2
        have hix : (8 * ((n2 : Int) - 1 - (i : Int)) + (k : Int)).toNat = 8 * (W.length - 1 - i) + k := by omega
        have hgk : (Nm.a1s W i k)[8 * (W.length - 1 - i) + k]? = some ((Nm.a1s W i k)[8 * (W.length - 1 - i) + k]'(by omega)) := c1x (by omega)
        (repeat first | refine uA ?_ | (refine uK ?_ ?_; focus first | omega | trivial | (intro h; rw [h]; rfl) | (intro h h2; rw [h, h2]; rfl) | (intro h; (try simp at h); omega) | (intros; simp_all <;> omega)) | simp only [go_sem, Nat.reduceBEq, Nat.reduceAdd, Nat.reduceLeDiff, Int.reduceToNat, Int.reducePow, u7, c1y, hbv, hix, c2n, hgk, c1z, F8, a2U, hst] | simp (disch := omega) only [ww, u7, c1y, hbv, hix, c2n, hgk, c1z, F8, a2U, hst])
        refine S.next (x := k) (k + 1) hk' (by omega) (by (repeat first | refine uA ?_ | (refine ⟨?_, ?_⟩; focus first | rfl | trivial | (simp [slot]; done)) | rfl | trivial | simp))
      · have hk8 : k = 8 := by omega
        subst hk8
        rw [Nm.a7G hiW]
        (repeat first | refine uA ?_ | (refine uK ?_ ?_; focus first | omega | trivial | (intro h; rw [h]; rfl) | (intro h h2; rw [h, h2]; rfl) | (intro h; (try simp at h); omega) | (intros; simp_all <;> omega)) | simp only [go_sem, Nat.reduceBEq, Nat.reduceAdd, Nat.reduceLeDiff, Int.reduceToNat, Int.reducePow] | simp (disch := omega) only [ww])
        refine S.next (x := i) (i + 1) hi' (by omega) (by (repeat first | refine uA ?_ | (refine ⟨?_, ?_⟩; focus first | rfl | trivial | (simp [slot]; done)) | rfl | trivial | simp))
    · have hi' : i = n2 := by omega
      subst hi'
      rw [<- hul, Nm.b0E]
      have hr1 : ((r / 8 : Nat) : Int) + 1 = ((r / 8 + 1 : Nat) : Int) := by omega
      have hrep : List.replicate (((r / 8 + 1 : Nat) : Int)).toNat [C.v (.int .u8 0)] = (List.replicate (r / 8 + 1) (0 : UInt8)).map F8 := by rw [<- a2w]; rfl
      have hrm : (r : Int).tmod 8 = ((r % 8 : Nat) : Int) := a7z r
      have hpw : IntKind.u8.wrap (1 * 2 ^ min (r % 8) 8) = (((Nm.oB (2 ^ (r % 8))).toNat : Nat) : Int) := by
        rw [show min (r % 8) 8 = r % 8 by omega, Nm.a1u, <- a1t]; congr 1; simp
      have hby : V8 ([C.v (.int .u8 (((Nm.oB (2 ^ (r % 8))).toNat : Nat) : Int))] :: List.replicate (r / 8) [C.v (.int .u8 0)]) = some (Nm.oB (2 ^ (r % 8)) :: List.replicate (r / 8) 0) := by
        rw [a2w]; exact Q5 (Nm.oB (2 ^ (r % 8)) :: List.replicate (r / 8) 0)
      (repeat first | refine uA ?_ | (refine uK ?_ ?_; focus first | omega | trivial | (intro h; rw [h]; rfl) | (intro h h2; rw [h, h2]; rfl) | (intro h; (try simp at h); omega) | (intros; simp_all <;> omega)) | simp only [go_sem, Nat.reduceBEq, Nat.reduceAdd, Nat.reduceLeDiff, Int.reduceToNat, Int.reducePow, hmn, hqm, hr1, hrep, hrm, hpw, hby, Q5, a1P, F8, c1B] | simp (disch := omega) only [ww, hmn, hqm, hr1, hrep, hrm, hpw, hby, Q5, a1P, F8, c1B] | (refine uB hfm ?_ ?_; exact rfl))
      exact S.done (d9.out rfl (Imp.refl rfl) rfl)
theorem b7Q (a b : List UInt8) (ha : a.length <= 68719476736) (hb : b.length <= 68719476736) : FZ 167 [sb a, sb b] (sb (Nm.enc (Nat.gcd (Nm.val a) (Nm.val b)))) := by
  refine kW Tryz.func167 (by cbv) (by rfl) fun w O hw => ?_
  simp only [j6, sb]
  have hta := Nm.V5 a
  have htb := Nm.V5 b
  have hva := Nm.O3 a
  have hvb := Nm.O3 b
  have hca := Nm.U2 a
  have hcb := Nm.U2 b
  have fta := a0B a (by omega)
  have ftb := a0B b (by omega)
  rw [<- hva, <- hvb]
  clear hva hvb
  generalize Nm.trim a = x at *
  generalize Nm.trim b = y at *
  generalize hG : Nat.gcd (Nm.val x) (Nm.val y) = G at *
  (repeat first | refine uA ?_ | (refine uK ?_ ?_; focus first | omega | (intros; simp_all <;> omega)) | simp (disch := omega) only [go_sem, Nat.reduceBEq, Nat.reduceAdd, ww] | (refine uB fta ?_ ?_; exact rfl) | (refine uB ftb ?_ ?_; exact rfl))
  refine S.loop (X := List UInt8 × List UInt8) (fun s => ⟨[(0, sb s.1), (1, sb s.2)], []⟩) (fun s => Nm.canon s.1 /\ Nm.canon s.2 /\ s.1.length <= 68719476736 /\ s.2.length <= 68719476736 /\ Nat.gcd (Nm.val s.1) (Nm.val s.2) = G) (fun s => Nm.val s.1 + Nm.val s.2) (x, y) ⟨hca, hcb, by simp only; omega, by simp only; omega, hG⟩ (by (repeat first | refine uA ?_ | (refine ⟨?_, ?_⟩; focus first | rfl | simp [slot]) | rfl | simp)) ?_
  clear fta ftb hca hcb hta htb hG
  rintro ⟨x, y⟩ ⟨hcx, hcy, hlx, hly, hG⟩
  simp only [sb] at hcx hcy hlx hly hG ⊢
  (repeat first | refine uA ?_ | (refine uK ?_ ?_; focus first | omega | (intros; simp_all <;> omega)) | simp (disch := omega) only [go_sem, Nat.reduceBEq, Nat.reduceAdd, ww])
  (refine uJ rfl (fun hc => ?_) fun hc => ?_)
  · rw [a0d, a0d] at hc
    have hne := hc
    refine S.skip ?_
    refine S.block ?_
    refine S.seq ?_
    refine S.join (Y := List UInt8 × List UInt8) (fun s => ⟨[(0, sb s.1), (1, sb s.2)], []⟩) (fun s => Nm.canon s.1 /\ Nm.canon s.2 /\ s.1.length <= 68719476736 /\ s.2.length <= s.1.length /\ Nat.gcd (Nm.val s.1) (Nm.val s.2) = G /\ s.1 ≠ [] /\ s.2 ≠ [] /\ Nm.val s.1 + Nm.val s.2 = Nm.val x + Nm.val y) ?_ ?_
    · (repeat first | refine uA ?_ | (refine uK ?_ ?_; focus first | omega | (intros; simp_all <;> omega)) | simp (disch := omega) only [go_sem, Nat.reduceBEq, Nat.reduceAdd, ww, w9])
      (refine uJ rfl (fun hc => ?_) fun hc => ?_)
      · (repeat first | refine uA ?_ | (refine uK ?_ ?_; focus first | omega | (intros; simp_all <;> omega)) | simp (disch := omega) only [go_sem, Nat.reduceBEq, Nat.reduceAdd, ww])
        exact S.met (⟨y, x⟩ : List UInt8 × List UInt8) ⟨hcy, hcx, hly, by simp only; omega, by rw [Nat.gcd_comm]; exact hG, hne.2, hne.1, by simp only; omega⟩ (by (repeat first | refine uA ?_ | (refine ⟨?_, ?_⟩; focus first | rfl | simp [slot]) | rfl | simp))
      · (repeat first | refine uA ?_ | (refine uK ?_ ?_; focus first | omega | (intros; simp_all <;> omega)) | simp (disch := omega) only [go_sem, Nat.reduceBEq, Nat.reduceAdd, ww])
        exact S.met (⟨x, y⟩ : List UInt8 × List UInt8) ⟨hcx, hcy, hlx, by simp only; omega, hG, hne.1, hne.2, rfl⟩ (by (repeat first | refine uA ?_ | (refine ⟨?_, ?_⟩; focus first | rfl | simp [slot]) | rfl | simp))
    clear hcx hcy hlx hly hG hc hne
    rintro ⟨p, q⟩ ⟨hcx, hcy, hlx, hly, hG, hp0, hq0, hsum⟩
    simp only [sb] at hcx hcy hlx hly hG hp0 hq0 hsum ⊢
    have hvp : Nm.val p ≠ 0 := fun h => hp0 ((Nm.val_zero hcx).1 h)
    have hvq : Nm.val q ≠ 0 := fun h => hq0 ((Nm.val_zero hcy).1 h)
    (repeat first | refine uA ?_ | (refine uK ?_ ?_; focus first | omega | (intros; simp_all <;> omega)) | simp (disch := omega) only [go_sem, Nat.reduceBEq, Nat.reduceAdd, ww, w9])
    (refine uJ rfl (fun hc => ?_) fun hc => ?_)
    · have hx7 := Nm.a0c (l := p) (k := 8) (by omega)
      have hy7 := Nm.a0c (l := q) (k := 8) (by omega)
      have e1 : Nm.val p % 18446744073709551616 = Nm.val p := Nat.mod_eq_of_lt (by omega)
      have e2 : Nm.val q % 18446744073709551616 = Nm.val q := Nat.mod_eq_of_lt (by omega)
      have fx := a1H p (by omega)
      have fy := a1H q (by omega)
      rw [e1] at fx
      rw [e2] at fy
      have hco := b1q (Nm.val p) (Nm.val q) (by omega) (by omega)
      rw [hG] at hco
      have hle : G <= Nm.val q := by rw [<- hG]; exact Nat.gcd_le_right _ (by omega)
      have hf := a0p G (by omega)
      (repeat first | refine uA ?_ | (refine uK ?_ ?_; focus first | omega | (intros; simp_all <;> omega)) | simp (disch := omega) only [go_sem, Nat.reduceBEq, Nat.reduceAdd, ww] | (refine uB fx ?_ ?_; exact rfl) | (refine uB fy ?_ ?_; exact rfl) | (refine uB hco ?_ ?_; exact rfl) | (refine uB hf ?_ ?_; exact rfl))
      exact S.done (d9.out rfl (Imp.refl rfl) rfl)
    (repeat first | refine uA ?_ | (refine uK ?_ ?_; focus first | omega | (intros; simp_all <;> omega)) | simp (disch := omega) only [go_sem, Nat.reduceBEq, Nat.reduceAdd, ww, w9])
    (refine uJ rfl (fun hc => ?_) fun hc => ?_)
    · have hh := b6W p q hlx (by omega) hvp hvq
      rw [hG] at hh
      (repeat first | refine uA ?_ | (refine uK ?_ ?_; focus first | omega | (intros; simp_all <;> omega)) | simp (disch := omega) only [go_sem, Nat.reduceBEq, Nat.reduceAdd, ww] | (refine uD hh ?_ ?_ ?_; exact tz hw; exact rfl))
      exact S.done (d9.out rfl (Imp.refl rfl) rfl)
    · have hd := b4c p q (by omega) (by omega) hvq
      have hlt : Nm.val p % Nm.val q < Nm.val q := Nat.mod_lt _ (by omega)
      have hlq := Nm.Y4 q
      have hpq := Nm.a2e hcx (a := q) (b := p) (by omega)
      have hrl : (Nm.enc (Nm.val p % Nm.val q)).length <= q.length := Nm.F4 (by omega)
      (repeat first | refine uA ?_ | (refine uK ?_ ?_; focus first | omega | (intros; simp_all <;> omega)) | simp (disch := omega) only [go_sem, Nat.reduceBEq, Nat.reduceAdd, ww] | (refine uB hd ?_ ?_; exact rfl))
      refine S.next (x := (x, y)) (q, Nm.enc (Nm.val p % Nm.val q)) ⟨hcy, Nm.a2T _, by simp only; omega, by simp only; omega, ?_⟩ (by simp only [Nm.J2]; omega) (by (repeat first | refine uA ?_ | (refine ⟨?_, ?_⟩; focus first | rfl | simp [slot]) | rfl | simp))
      simp only [Nm.J2]
      rw [Nat.gcd_comm, <- Nat.gcd_rec, Nat.gcd_comm]; exact hG
  · have hr : Nm.enc G = x ++ y := by
      rw [a0d, a0d] at hc
      rcases Classical.em (x = []) with h | h
      · subst h
        rw [Nm.a8K, Nat.gcd_zero_left] at hG
        rw [<- hG, Nm.a1a hcy]; rfl
      · have hy : y = [] := by
          rcases hc with hc | hc
          · exact absurd hc h
          · exact hc
        subst hy
        rw [Nm.a8K, Nat.gcd_zero_right] at hG
        rw [<- hG, Nm.a1a hcx, List.append_nil]
    rw [hr]
    (repeat first | refine uA ?_ | (refine uK ?_ ?_; focus first | omega | (intros; simp_all <;> omega)) | simp (disch := omega) only [go_sem, Nat.reduceBEq, Nat.reduceAdd, ww, a0h, w9])
    exact S.done (d9.out rfl (Imp.refl rfl) rfl)
end Go.Proofs.YtogfpjohjphngaaGreatDoor
