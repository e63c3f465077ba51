/- The program's data opened. -/
import Derived.Test.YtaicmkocmnikjaaOpen
import Derived.Test.YtaicmkocmnikjaaWs
namespace Go.Proofs.Ytaicmkocmnikjaa
set_option linter.all false
open Go Go.RowKit Go.ChangeShapes Go.WideShapes Eng

def okRt (q : Rt) : Prop := q.num.size ≤ 9223372036854775807 ∧ q.den.size ≤ 9223372036854775807
def okVc (v : Vc) : Prop := okRt v.x ∧ okRt v.y
def okFm (f : Fm) : Prop := okVc f.at_ ∧ okRt f.turn.t
def okRats (W : World) (s : Sc Rt) : Prop := SliOK W (· < W.heap.size) (sliOf 0 Rt.enc 3 s) ∧ ∀ q ∈ s.xs, okRt q
def okArm (W : World) (x : ArmSt) : Prop := okRats W x.q ∧ okRats W x.v ∧ I64 x.holds
def okStt (W : World) (s : Stt) : Prop := I64 s.tick ∧ (SliOK W (· < W.heap.size) (sliOf 0 ArmSt.enc 4 s.arms) ∧ ∀ x ∈ s.arms.xs, okArm W x) ∧ (SliOK W (· < W.heap.size) (sliOf 0 Fm.enc 10 s.parts) ∧ ∀ x ∈ s.parts.xs, okFm x) ∧
  (SliOK W (· < W.heap.size) (sliOf 0 Vc.enc 6 s.people) ∧ ∀ x ∈ s.people.xs, okVc x) ∧ SliOK W (· < W.heap.size) (sliOf 0 boolEnc 1 s.open_)
def msRt (q : Rt) : Nat := 1 + (q.num.size + 10) + (q.den.size + 10)
def msVc (v : Vc) : Nat := msRt v.x + msRt v.y
def msFm (f : Fm) : Nat := msVc f.at_ + (1 + msRt f.turn.t)
def msRats (s : Sc Rt) : Nat := 10 + (s.xs.map msRt).sum
def msArm (x : ArmSt) : Nat := msRats x.q + msRats x.v + 1 + 10
def msStt (s : Stt) : Nat := 10 + (10 + (s.arms.xs.map msArm).sum) + (10 + (s.parts.xs.map msFm).sum) + (10 + (s.people.xs.map msVc).sum) + (10 + (s.open_.xs.map fun _ => 1).sum)

theorem okStt.st {W : World} {s : Stt} (h : okStt W s) : StOK W (· < W.heap.size) s :=
  ⟨h.2.1.1, fun x hx => (h.2.1.2 x hx).1.1, fun x hx => (h.2.1.2 x hx).2.1.1, h.2.2.1.1, h.2.2.2.1.1, h.2.2.2.2⟩

theorem intB_le (n : Int) : (intB n).length ≤ 10 := intB_len n
theorem textB_le (s : ByteArray) : (textB s).length ≤ s.size + 10 := by
  have h1 : s.data.toList.length = s.size := by cases s; simp [ByteArray.size]
  have := intB_len s.size
  simp only [textB, List.length_append, h1]
  omega
theorem boolB_le (b : Bool) : (boolB b).length ≤ 1 := by cases b <;> simp [boolB]
theorem ratB_le (q : Rt) : (ratB q).length ≤ msRt q := by
  have h1 := boolB_le q.neg
  have h2 := textB_le q.num
  have h3 := textB_le q.den
  simp only [ratB, msRt, List.length_append]
  omega
theorem vecB_le (v : Vc) : (vecB v).length ≤ msVc v := by
  have h1 := ratB_le v.x
  have h2 := ratB_le v.y
  simp only [vecB, msVc, List.length_append]
  omega
theorem frameB_le (f : Fm) : (frameB f).length ≤ msFm f := by
  have h1 := vecB_le f.at_
  have h2 := boolB_le f.turn.half
  have h3 := ratB_le f.turn.t
  simp only [frameB, msFm, List.length_append]
  omega
theorem listB_le {α : Type} (f : α → List UInt8) (ms : α → Nat) (h : ∀ a, (f a).length ≤ ms a) (l : List α) : (listB f l).length ≤ 10 + (l.map ms).sum := by
  have h1 := intB_len l.length
  have h2 : (l.flatMap f).length ≤ (l.map ms).sum := by
    induction l with
    | nil => simp
    | cons x l ih =>
      have := h x
      have := ih (intB_len _)
      simp only [List.flatMap_cons, List.length_append, List.map_cons, List.sum_cons]
      omega
  simp only [listB, List.length_append]
  omega
theorem armB_le (x : ArmSt) : (armB x).length ≤ msArm x := by
  have h1 := listB_le ratB msRt ratB_le x.q.xs
  have h2 := listB_le ratB msRt ratB_le x.v.xs
  have h3 := boolB_le x.power
  have h4 := intB_len (IntKind.i64.wrap (x.holds + 1))
  simp only [armB, msArm, msRats, List.length_append]
  omega
theorem stateB_le (s : Stt) : (stateB s).length ≤ msStt s := by
  have h1 := intB_len s.tick
  have h2 := listB_le armB msArm armB_le s.arms.xs
  have h3 := listB_le frameB msFm frameB_le s.parts.xs
  have h4 := listB_le vecB msVc vecB_le s.people.xs
  have h5 := listB_le boolB (fun _ => 1) boolB_le s.open_.xs
  simp only [stateB, msStt, List.length_append]
  omega

def Tn.enc (t : Tn) : List Value := [.bool t.half, .bool t.t.neg, .string t.t.num, .string t.t.den]
theorem sum_ones {α : Type} (l : List α) : l.length = (l.map fun _ => 1).sum := by
  induction l with
  | nil => rfl
  | cons x l ih => simp only [List.length_cons, List.map_cons, List.sum_cons]; omega

section
variable {H : Type} {enc : TypeId × Value → H} {W : World}
theorem rt_one (q : Rt) : ∀ u ∈ q.enc, u.oneCell' = true := by simp [Rt.enc, Value.oneCell']
theorem vc_one (q : Vc) : ∀ u ∈ q.enc, u.oneCell' = true := by simp [Vc.enc, Value.oneCell']
theorem fm_one (q : Fm) : ∀ u ∈ q.enc, u.oneCell' = true := by simp [Fm.enc, Value.oneCell']
theorem arm_one (q : ArmSt) : ∀ u ∈ q.enc, u.oneCell' = true := by simp [ArmSt.enc, Value.oneCell']
theorem bool_one (q : Bool) : ∀ u ∈ boolEnc q, u.oneCell' = true := by simp [boolEnc, Value.oneCell']
theorem byte_one (q : UInt8) : ∀ u ∈ byteEnc q, u.oneCell' = true := by simp [byteEnc, Value.oneCell']

theorem o_rat : Opens enc Try.prog W 46 Rt.enc okRt msRt := by
  intro fuel cs x h
  obtain ⟨n, ps, ys, rfl, rfl, hp⟩ := open_struct Try.underlying46 (by kernel_rfl) h
  simp only [Parts, List.toList_toArray] at hp
  obtain ⟨c0, _, y0, _, rfl, rfl, h0, c1, _, y1, _, rfl, rfl, h1, c2, _, y2, _, rfl, rfl, h2, rfl, rfl⟩ := hp
  obtain ⟨a0, rfl, k0, m0⟩ := (opens_bool Try.underlying4) _ _ _ h0
  obtain ⟨a1, rfl, k1, m1⟩ := (opens_str Try.underlying9) _ _ _ h1
  obtain ⟨a2, rfl, k2, m2⟩ := (opens_str Try.underlying9) _ _ _ h2
  refine ⟨⟨a0, a1, a2⟩, rfl, ⟨k1, k2⟩, ?_⟩
  simp only [List.map_cons, List.map_nil, Rows.uptoBulk, Rows.uptoBulkAll, msRt, msVc, msFm, msRats, msArm, msStt] at *
  omega

theorem o_vec : Opens enc Try.prog W 48 Vc.enc okVc msVc := by
  intro fuel cs x h
  obtain ⟨n, ps, ys, rfl, rfl, hp⟩ := open_struct Try.underlying48 (by kernel_rfl) h
  simp only [Parts, List.toList_toArray] at hp
  obtain ⟨c0, _, y0, _, rfl, rfl, h0, c1, _, y1, _, rfl, rfl, h1, rfl, rfl⟩ := hp
  obtain ⟨a0, rfl, k0, m0⟩ := o_rat _ _ _ h0
  obtain ⟨a1, rfl, k1, m1⟩ := o_rat _ _ _ h1
  refine ⟨⟨a0, a1⟩, rfl, ⟨k0, k1⟩, ?_⟩
  simp only [List.map_cons, List.map_nil, Rows.uptoBulk, Rows.uptoBulkAll, msRt, msVc, msFm, msRats, msArm, msStt] at *
  omega

theorem o_turn : Opens enc Try.prog W 50 Tn.enc (fun t => okRt t.t) (fun t => 1 + msRt t.t) := by
  intro fuel cs x h
  obtain ⟨n, ps, ys, rfl, rfl, hp⟩ := open_struct Try.underlying50 (by kernel_rfl) h
  simp only [Parts, List.toList_toArray] at hp
  obtain ⟨c0, _, y0, _, rfl, rfl, h0, c1, _, y1, _, rfl, rfl, h1, rfl, rfl⟩ := hp
  obtain ⟨a0, rfl, k0, m0⟩ := (opens_bool Try.underlying4) _ _ _ h0
  obtain ⟨a1, rfl, k1, m1⟩ := o_rat _ _ _ h1
  refine ⟨⟨a0, a1⟩, rfl, k1, ?_⟩
  simp only [List.map_cons, List.map_nil, Rows.uptoBulk, Rows.uptoBulkAll, msRt, msVc, msFm, msRats, msArm, msStt] at *
  omega

theorem o_frame : Opens enc Try.prog W 52 Fm.enc okFm msFm := by
  intro fuel cs x h
  obtain ⟨n, ps, ys, rfl, rfl, hp⟩ := open_struct Try.underlying52 (by kernel_rfl) h
  simp only [Parts, List.toList_toArray] at hp
  obtain ⟨c0, _, y0, _, rfl, rfl, h0, c1, _, y1, _, rfl, rfl, h1, rfl, rfl⟩ := hp
  obtain ⟨a0, rfl, k0, m0⟩ := o_vec _ _ _ h0
  obtain ⟨a1, rfl, k1, m1⟩ := o_turn _ _ _ h1
  refine ⟨⟨a0, a1⟩, rfl, ⟨k0, k1⟩, ?_⟩
  simp only [List.map_cons, List.map_nil, Rows.uptoBulk, Rows.uptoBulkAll, msRt, msVc, msFm, msRats, msArm, msStt] at *
  omega

theorem o_rats : Opens enc Try.prog W 40 (fun s : Sc Rt => [s.val]) (okRats W) msRats := opens_slice (sz := 3) Try.underlying40 (by kernel_rfl) (by decide) (fun a => rfl) rt_one o_rat

theorem o_arm : Opens enc Try.prog W 42 ArmSt.enc (okArm W) msArm := by
  intro fuel cs x h
  obtain ⟨n, ps, ys, rfl, rfl, hp⟩ := open_struct Try.underlying42 (by kernel_rfl) h
  simp only [Parts, List.toList_toArray] at hp
  obtain ⟨c0, _, y0, _, rfl, rfl, h0, c1, _, y1, _, rfl, rfl, h1, c2, _, y2, _, rfl, rfl, h2, c3, _, y3, _, rfl, rfl, h3, rfl, rfl⟩ := hp
  obtain ⟨a0, rfl, k0, m0⟩ := o_rats _ _ _ h0
  obtain ⟨a1, rfl, k1, m1⟩ := o_rats _ _ _ h1
  obtain ⟨a2, rfl, k2, m2⟩ := (opens_bool Try.underlying4) _ _ _ h2
  obtain ⟨a3, rfl, k3, m3⟩ := (opens_int Try.underlying3) _ _ _ h3
  refine ⟨⟨a0, a1, a2, a3⟩, rfl, ⟨k0, k1, k3⟩, ?_⟩
  simp only [List.map_cons, List.map_nil, Rows.uptoBulk, Rows.uptoBulkAll, msRt, msVc, msFm, msRats, msArm, msStt] at *
  omega

theorem o_state : Opens enc Try.prog W 27 Stt.enc (okStt W) msStt := by
  intro fuel cs x h
  obtain ⟨n, ps, ys, rfl, rfl, hp⟩ := open_struct Try.underlying27 (by kernel_rfl) h
  simp only [Parts, List.toList_toArray] at hp
  obtain ⟨c0, _, y0, _, rfl, rfl, h0, c1, _, y1, _, rfl, rfl, h1, c2, _, y2, _, rfl, rfl, h2, c3, _, y3, _, rfl, rfl, h3, c4, _, y4, _, rfl, rfl, h4, rfl, rfl⟩ := hp
  obtain ⟨a0, rfl, k0, m0⟩ := (opens_int Try.underlying3) _ _ _ h0
  obtain ⟨a1, rfl, k1, m1⟩ := (opens_slice (sz := 4) Try.underlying22 (by kernel_rfl) (by decide) (fun a => rfl) arm_one o_arm) _ _ _ h1
  obtain ⟨a2, rfl, k2, m2⟩ := (opens_slice (sz := 10) Try.underlying23 (by kernel_rfl) (by decide) (fun a => rfl) fm_one o_frame) _ _ _ h2
  obtain ⟨a3, rfl, k3, m3⟩ := (opens_slice (sz := 6) Try.underlying24 (by kernel_rfl) (by decide) (fun a => rfl) vc_one o_vec) _ _ _ h3
  obtain ⟨a4, rfl, k4, m4⟩ := (opens_slice (sz := 1) Try.underlying25 (by kernel_rfl) (by decide) (fun a => rfl) bool_one (opens_bool Try.underlying4)) _ _ _ h4
  refine ⟨⟨a0, a1, a2, a3, a4⟩, rfl, ⟨k0, k1, k2, k3, k4.1⟩, ?_⟩
  simp only [List.map_cons, List.map_nil, Rows.uptoBulk, Rows.uptoBulkAll, msRt, msVc, msFm, msRats, msArm, msStt] at *
  omega

theorem o_bytes : Opens enc Try.prog W 28 (fun s : Sc UInt8 => [s.val]) (fun s => SliOK W (· < W.heap.size) (sliOf 0 byteEnc 1 s)) fun s => 10 + s.xs.length :=
  (opens_slice (sz := 1) Try.underlying28 (by kernel_rfl) (by decide) (fun a => rfl) byte_one (opens_byte Try.underlying5)).imp fun s h => ⟨s, rfl, h.1, by have := sum_ones s.xs; omega⟩
end
end Go.Proofs.Ytaicmkocmnikjaa
