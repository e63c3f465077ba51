/- The data of the program, as plain structures, and how they lie in cells. -/
import Derived.Test.YtaicmkocmnikjaaObj
namespace Go.Proofs.Ytaicmkocmnikjaa
set_option linter.all false
open Go Go.RowKit Eng

/-- a rational as it stands: sign, numerator, denominator -/
structure Rt where
  neg : Bool
  num : ByteArray
  den : ByteArray
structure Vc where
  x : Rt
  y : Rt
structure Tn where
  half : Bool
  t : Rt
structure Fm where
  at_ : Vc
  turn : Tn
/-- a slice: where it lies, and what it holds -/
structure Sc (α : Type) where
  A : Option Addr
  c : Nat
  xs : List α
def Sc.val {α : Type} (s : Sc α) : Value := .slice s.A s.xs.length s.c
structure ArmSt where
  q : Sc Rt
  v : Sc Rt
  power : Bool
  holds : Int
structure Stt where
  tick : Int
  arms : Sc ArmSt
  parts : Sc Fm
  people : Sc Vc
  open_ : Sc Bool

def Rt.enc (a : Rt) : List Value := [.bool a.neg, .string a.num, .string a.den]
def Vc.enc (v : Vc) : List Value := [.bool v.x.neg, .string v.x.num, .string v.x.den, .bool v.y.neg, .string v.y.num, .string v.y.den]
def Fm.enc (f : Fm) : List Value := [.bool f.at_.x.neg, .string f.at_.x.num, .string f.at_.x.den, .bool f.at_.y.neg, .string f.at_.y.num, .string f.at_.y.den, .bool f.turn.half, .bool f.turn.t.neg, .string f.turn.t.num, .string f.turn.t.den]
def ArmSt.enc (x : ArmSt) : List Value := [.slice x.q.A x.q.xs.length x.q.c, .slice x.v.A x.v.xs.length x.v.c, .bool x.power, .int .i64 x.holds]
def boolEnc (b : Bool) : List Value := [.bool b]
def byteEnc (b : UInt8) : List Value := [.int .u8 b.toNat]

/-- a slice as the walk knows it -/
def sliOf {α : Type} (q : Nat) (enc : α → List Value) (sz : Nat) (s : Sc α) : Sli := ⟨q, .slice s.A s.xs.length s.c, s.xs.length, sz, fun i => ((s.xs[i]?).map enc).getD []⟩

theorem getElem?_lt {α : Type} {l : List α} {k : Nat} (h : k < l.length) : l[k]? = some l[k] := List.getElem?_eq_getElem h

theorem sliOf_len {α : Type} {q : Nat} {enc : α → List Value} {sz : Nat} {s : Sc α} {w : World} {T : Nat → Prop} (h : SliOK w T (sliOf q enc sz s)) : s.xs.length ≤ 9223372036854775807 := by
  obtain ⟨_, _, _, h, _⟩ := h
  unfold maxLen at h
  exact h

/-- a number, 7 bits a byte, the lowest first -/
def natB (u : Nat) : List UInt8 := if u < 128 then [UInt8.ofNat u] else UInt8.ofNat (u % 128 + 128) :: natB (u / 128)
termination_by u
decreasing_by omega
def intB (n : Int) : List UInt8 := natB (IntKind.u64.wrap n).toNat
def boolB (b : Bool) : List UInt8 := if b then [1] else [0]
def textB (s : ByteArray) : List UInt8 := intB s.size ++ s.data.toList
def ratB (a : Rt) : List UInt8 := boolB a.neg ++ textB a.num ++ textB a.den
def listB {α : Type} (f : α → List UInt8) (l : List α) : List UInt8 := intB l.length ++ l.flatMap f
def vecB (v : Vc) : List UInt8 := ratB v.x ++ ratB v.y
def frameB (f : Fm) : List UInt8 := vecB f.at_ ++ boolB f.turn.half ++ ratB f.turn.t
def armB (x : ArmSt) : List UInt8 := listB ratB x.q.xs ++ listB ratB x.v.xs ++ boolB x.power ++ intB (IntKind.i64.wrap (x.holds + 1))
def stateB (s : Stt) : List UInt8 := intB s.tick ++ listB armB s.arms.xs ++ listB frameB s.parts.xs ++ listB vecB s.people.xs ++ listB boolB s.open_.xs
end Go.Proofs.Ytaicmkocmnikjaa
