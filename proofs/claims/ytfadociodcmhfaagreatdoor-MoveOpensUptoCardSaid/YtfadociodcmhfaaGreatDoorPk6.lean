/- A part of the proof: lemmas only, with the conditions that each names. -/
import Derived.Test.YtfadociodcmhfaaGreatDoorRows
import Derived.Carry
import Derived.ChangeArms
import Derived.ChangeSame
import Derived.Deep.Slices
import Derived.WalkKit
import Derived.ProofKit
import Derived.OpenShut
import Derived.JoinedCond
import Derived.Test.YtfadociodcmhfaaGreatDoorCards
import Derived.Test.YtfadociodcmhfaaGreatDoorTie
import Derived.Deep.DeepHandedRow
import Derived.Deep.DeepWitnessRowRef
import Derived.Lib.LaidTab
import Derived.LaidMore
import Derived.Test.YtfadociodcmhfaaGreatDoorPk5
namespace Go.Proofs.YtfadociodcmhfaaGreatDoor
set_option linter.all false
open Go Go.RowKit Eng
set_option maxRecDepth 100000
set_option maxHeartbeats 16000000
theorem h_copy {E : Ctx} (hP : E.P = Tryz.prog) (s : Stt) (hs : Stb 1073741824 s) :
    CallT E [] 24 [s.c] (.agg [ints s.tick, asts s.arms, frs s.parts, .rv 2, .rv 3]) [.gone, .gone, .row 44 6 (s.people.map Vt.enc), .row 4 1 (s.gates.map fun b => [.v (.bool b)])] [] := by
  obtain ⟨P, eff', N, w0, own0, av0, nu0, pk0⟩ := E
  simp only at hP
  subst hP
  refine CallT.of (eff := effC) fn_world_Copy_effC ok_world_Copy_effC (by exact Nat.le_of_ble_eq_true rfl) fun w own av ν hν => ?_
  have hν0 : ν.length ≤ 0 := by rw [hν]; exact Nat.le_refl _
  obtain ⟨⟨n1, b1⟩, ⟨n2, b2⟩, ⟨n3, b3⟩, n4⟩ := hs
  obtain ⟨tick, arms, parts, people, gates⟩ := s
  simp only at n1 b1 n2 n3 n4 ⊢
  have c1 := h_clnFrame (parts.map Fr.enc) (by rw [List.length_map]; exact n2)
  have c2 := h_clnVec (people.map Vt.enc) (by rw [List.length_map]; exact n3)
  have c3 := h_clnBool (gates.map fun b => [.v (.bool b)]) (by rw [List.length_map]; exact n4)
  simp only [ir_world_Copy_effC, frOf, TT, II, OA, OB, OC, MM, LL, VV, FF, MG, LG, VG, FG]
  simp only [Stt.c, Stt.enc, asts, frs, vts, bls, ints]
  (repeat first | refine uI ?_ | (apply S.exit; exact rfl) | ((with_reducible refine And.intro ?_ ?_); focus first | omega | trivial | exact id | (intros; simp_all <;> omega)) | simp (disch := omega) only [go_sem, Nat.reduceBEq, Nat.reduceAdd, Nat.reduceLeDiff, Int.reduceToNat, Int.reducePow, ww])
  refine S.regd [.box 37 [.v (.int .i64 tick), .sl 4 (arms.map Ast.enc), .sl 10 (parts.map Fr.enc), .sl 6 (people.map Vt.enc), .sl 1 (gates.map fun b => [.v (.bool b)])]] ⟨rfl, True.intro⟩ ?_
  (repeat first | refine uA ?_ | (apply S.exit; exact rfl) | ((with_reducible refine And.intro ?_ ?_); focus first | omega | trivial | exact id | (intros; simp_all <;> omega)) | simp (disch := omega) only [go_sem, Nat.reduceBEq, Nat.reduceAdd, Nat.reduceLeDiff, Int.reduceToNat, Int.reducePow, ww, subR, List.length_map] | refine CallOK.t (FNew.t c2 rfl) ?_ | refine CallOK.t (FNew.t c3 rfl) ?_ | (refine uB c1.spec ?_ ?_; exact rfl))
  refine S.loop (X := Nat) (fun i => ⟨[(2, .bp 1 0), (3, .bp 4 0), (19, asts arms), (20, ints arms.length), (21, ints i)], [.gone, .box 37 [.v (.int .i64 0), .v (.slice none 0 0), .v (.slice none 0 0), .v (.slice none 0 0), .v (.slice none 0 0)], .row 44 6 (people.map Vt.enc), .row 4 1 (gates.map fun b => [.v (.bool b)]), .box 37 [ints tick, .rv 5, frs parts, .rv 2, .rv 3], .row 85 4 ((arms.take i).map Ast.enc)]⟩) (fun i => i ≤ arms.length) (fun i => arms.length - i) 0 (Nat.zero_le _)
    (Ent.trans (Ent.packB 4 1 85 4 rfl rfl rfl) (by (repeat first | refine uA ?_ | (refine ⟨?_, ?_⟩; focus first | rfl | trivial | (simp [slot]; done)) | rfl | trivial | simp | exact Nat.le_trans hν0 (by simp)))) ?_
  intro i hi
  simp only [asts, frs, ints]
  (repeat first | refine uA ?_ | (apply S.exit; exact rfl) | ((with_reducible refine And.intro ?_ ?_); focus first | omega | trivial | exact id | (intros; simp_all <;> omega)) | simp (disch := omega) only [go_sem, Nat.reduceBEq, Nat.reduceAdd, Nat.reduceLeDiff, Int.reduceToNat, Int.reducePow, ww])
  (refine uJ rfl (fun hc => ?_) fun hc => ?_)
  · have hi' : i < arms.length := by omega
    have hgi := List.getElem?_eq_getElem hi'
    have hap : arms.take (i + 1) = arms.take i ++ [arms[i]] := List.take_succ_eq_append_getElem hi'
    generalize arms[i] = x at hgi hap
    obtain ⟨⟨q1, _⟩, ⟨q2, _⟩⟩ := b1 x (List.mem_of_getElem? hgi)
    have e1 := (h_clnRat (x.q.map rcs) (by rw [List.length_map]; exact q1)).spec
    have e2 := (h_clnRat (x.v.map rcs) (by rw [List.length_map]; exact q2)).spec
    have htl : (arms.take i).length = i := by rw [List.length_take]; omega
    (repeat first | refine uA ?_ | (apply S.exit; exact rfl) | ((with_reducible refine And.intro ?_ ?_); focus first | omega | trivial | exact id | (intros; simp_all <;> omega)) | simp (disch := omega) only [go_sem, Nat.reduceBEq, Nat.reduceAdd, Nat.reduceLeDiff, Int.reduceToNat, Int.reducePow, ww, hgi, Option.map_some, List.length_map, Ast.enc, rts, ints, htl] | (refine uB e1 ?_ ?_; exact rfl) | (refine uB e2 ?_ ?_; exact rfl))
    refine S.next (i + 1) (by omega) (by omega) (by simp only [hap, List.map_append, List.map_cons, List.map_nil, Ast.enc, rts, ints]; exact (by (repeat first | refine uA ?_ | (refine ⟨?_, ?_⟩; focus first | rfl | trivial | (simp [slot]; done)) | rfl | trivial | simp | exact Nat.le_trans hν0 (by simp))))
  · have hi' : i = arms.length := by omega
    subst hi'
    rw [List.take_length]
    (repeat first | refine uA ?_ | (apply S.exit; exact rfl) | ((with_reducible refine And.intro ?_ ?_); focus first | omega | trivial | exact id | (intros; simp_all <;> omega)) | simp (disch := omega) only [go_sem, Nat.reduceBEq, Nat.reduceAdd, Nat.reduceLeDiff, Int.reduceToNat, Int.reducePow, ww])
    (refine S.done ?_; simp only [retP, loadP, go_sem, Nat.reduceBEq, Nat.reduceAdd, Nat.reduceLeDiff, Int.reduceToNat, Int.reducePow]; (repeat (refine ⟨?_, ?_⟩; focus first | trivial | omega | simp)); exact RetOK.ownW (Imp.agg (by (repeat' (first | exact ImpL.nil | exact Imp.refl rfl | exact Imp.frz rfl rfl rfl | exact Imp.nilsl | refine ImpL.cons ?_ ?_)))) (by (repeat first | refine uA ?_ | (refine ⟨?_, ?_⟩; focus first | rfl | trivial | (simp [slot]; done)) | rfl | trivial | simp)) (Nat.le_trans hν0 (by simp)))
def zeroS : List C := [.v (.int .i64 0), .v (.slice none 0 0), .v (.slice none 0 0), .v (.slice none 0 0), .v (.slice none 0 0)]
theorem f_open (w : Wk) (s : Stt) (g : Nat) (is : Bool) (hwb : Wb 1073741824 w) (hs : Stb 1073741824 s) (h : stateE w s = 0) :
    FZ 13 [w.c, s.c, .v (.int .i64 (g : Int)), .v (.bool is)] (if g < w.gates.length then .tup [(Stt.mk s.tick s.arms s.parts s.people (s.gates.set g is)).c, ints 0] else .tup [.agg zeroS, ints 1]) := by
  refine FSpecW.of fn_move_Open ok_move_Open (by exact Nat.le_of_ble_eq_true rfl) fun w' O hw => ?_
  have hck := f_stateE w s hwb hs
  rw [h] at hck
  have hcp := fun (E : Ctx) (hP : E.P = Tryz.prog) => h_copy hP s hs
  have n4 := hs.gates
  have n5 := hwb.gates.1
  have hgl : s.gates.length = w.gates.length := by
    unfold stateE at h
    split at h
    · rename_i h1; exact absurd h h1
    · split at h
      · cases h
      · split at h
        · cases h
        · omega
  obtain ⟨arms, walls, parts, slots, gates, walk⟩ := w
  obtain ⟨tick, sarms, sparts, people, sgates⟩ := s
  simp only at n4 n5 hgl ⊢
  simp only [ir_move_Open, frOf, TT, II, OA, OB, OC, MM, LL, VV, FF, MG, LG, VG, FG]
  simp only [Wk.c, Wk.enc, Stt.c, Stt.enc, ams, wls, pts, sls, gts, asts, frs, vts, bls, sb, ints] at hck hcp ⊢
  (repeat first | refine uA ?_ | (apply S.exit; exact rfl) | ((with_reducible refine And.intro ?_ ?_); focus first | omega | trivial | exact id | (intros; simp_all <;> omega)) | simp (disch := omega) only [go_sem, Nat.reduceBEq, Nat.reduceAdd, Nat.reduceLeDiff, Int.reduceToNat, Int.reducePow, ww] | (refine uD hck ?_ ?_ ?_; exact tz hw; exact rfl))
  refine S.cond rfl (fun hc => by simp at hc) (fun hc => ?_)
  (repeat first | refine uA ?_ | (apply S.exit; exact rfl) | ((with_reducible refine And.intro ?_ ?_); focus first | omega | trivial | exact id | (intros; simp_all <;> omega)) | simp (disch := omega) only [go_sem, Nat.reduceBEq, Nat.reduceAdd, Nat.reduceLeDiff, Int.reduceToNat, Int.reducePow, ww, List.length_map])
  by_cases hg : g < gates.length
  · rw [if_pos hg]
    refine S.cond rfl (fun hc => by simp at hc; omega) (fun hc => ?_)
    have hset : (sgates.map fun b => [C.v (Value.bool b)]).set g [C.v (Value.bool is)] = (sgates.set g is).map fun b => [C.v (Value.bool b)] := by rw [List.map_set]
    have hgg : sgates[g]? = some (sgates[g]'(by omega)) := List.getElem?_eq_getElem (by omega)
    (repeat first | refine uA ?_ | (apply S.exit; exact rfl) | ((with_reducible refine And.intro ?_ ?_); focus first | omega | trivial | exact id | (intros; simp_all <;> omega)) | simp (disch := omega) only [go_sem, Nat.reduceBEq, Nat.reduceAdd, Nat.reduceLeDiff, Int.reduceToNat, Int.reducePow, ww, C.sh, C.shL, List.length_cons, List.length_nil, List.length_map, hset, hgg, Option.map_some, Int.toNat_natCast] | refine CallOK.t (CallT.pre (hcp _ rfl) rfl rfl rfl) ?_)
    (refine S.done ?_; simp only [retP, loadP, go_sem, Nat.reduceBEq, Nat.reduceAdd, Nat.reduceLeDiff, Int.reduceToNat, Int.reducePow]; (repeat (refine ⟨?_, ?_⟩; focus first | trivial | omega | simp)); exact RetOK.out rfl (Imp.tup (by (repeat' (first | exact ImpL.nil | exact Imp.refl rfl | exact Imp.frz rfl rfl rfl | exact Imp.nilsl | refine Imp.agg ?_ | refine ImpL.cons ?_ ?_)))) rfl)
  · rw [if_neg hg]
    refine S.cond rfl (fun hc => ?_) (fun hc => by simp at hc; omega)
    (repeat first | refine uA ?_ | (apply S.exit; exact rfl) | ((with_reducible refine And.intro ?_ ?_); focus first | omega | trivial | exact id | (intros; simp_all <;> omega)) | simp (disch := omega) only [go_sem, Nat.reduceBEq, Nat.reduceAdd, Nat.reduceLeDiff, Int.reduceToNat, Int.reducePow, ww])
    (refine S.done ?_; simp only [retP, loadP, go_sem, Nat.reduceBEq, Nat.reduceAdd, Nat.reduceLeDiff, Int.reduceToNat, Int.reducePow]; (repeat (refine ⟨?_, ?_⟩; focus first | trivial | omega | simp)); exact RetOK.out rfl (Imp.tup (by (repeat' (first | exact ImpL.nil | exact Imp.refl rfl | exact Imp.frz rfl rfl rfl | exact Imp.nilsl | refine Imp.agg ?_ | refine ImpL.cons ?_ ?_)))) rfl)
theorem state_gates {w : Wk} {s : Stt} (h : stateE w s = 0) : s.gates.length = w.gates.length := by
  unfold stateE at h
  split at h
  · rename_i h1; exact absurd h h1
  · split at h
    · cases h
    · split at h
      · cases h
      · omega
def outB (v : Vt) (z : Gt) : Prop := Nm.cmpQ (Nm.fitQ v.x) (Nm.fitQ z.low.x) < 0 ∨ 0 < Nm.cmpQ (Nm.fitQ v.x) (Nm.fitQ z.high.x) ∨ Nm.cmpQ (Nm.fitQ v.y) (Nm.fitQ z.low.y) < 0 ∨ 0 < Nm.cmpQ (Nm.fitQ v.y) (Nm.fitQ z.high.y)
instance (v : Vt) (z : Gt) : Decidable (outB v z) := by unfold outB; infer_instance
theorem f_enter (w : Wk) (s : Stt) (g : Nat) (v : Vt) (z : Gt) (o : Bool) (hwb : Wb 1073741824 w) (hs : Stb 1073741824 s) (h : stateE w s = 0) (hz : w.gates[g]? = some z) (ho : s.gates[g]? = some o) (hv : Vb 1073741824 v) (g1 : v.x.goodP) (g2 : v.y.goodP) :
    FZ 16 [w.c, s.c, .v (.int .i64 (g : Int)), v.c] (if o = false then .tup [.agg zeroS, ints 7] else if outB v z then .tup [.agg zeroS, ints 17] else if s.people.length = 4 then .tup [.agg zeroS, ints 6] else .tup [(Stt.mk s.tick s.arms s.parts (s.people ++ [v]) s.gates).c, ints 0]) := by
  refine FSpecW.of fn_move_Enter ok_move_Enter (by exact Nat.le_of_ble_eq_true rfl) fun w' O hw => ?_
  have hck := f_stateE w s hwb hs
  rw [h] at hck
  have hcp := fun (E : Ctx) (hP : E.P = Tryz.prog) => h_copy hP s hs
  have n3 := hs.people.1
  have n4 := hs.gates
  have n5 := hwb.gates.1
  have hgl := state_gates h
  have hgi : g < w.gates.length := (List.getElem?_eq_some_iff.1 hz).1
  have hzb := hwb.gates.2 z (List.mem_of_getElem? hz)
  obtain ⟨_, ⟨zb1, zb2⟩, ⟨zb3, zb4⟩⟩ := hzb
  have o1 := f_good v.x (hv.1.mono (by decide))
  have o2 := f_good v.y (hv.2.mono (by decide))
  rw [decide_eq_true g1] at o1
  rw [decide_eq_true g2] at o2
  have o3 := f_rcmp v.x z.low.x (hv.1.mono (by decide)) (zb1.mono (by decide))
  have o4 := f_rcmp v.x z.high.x (hv.1.mono (by decide)) (zb3.mono (by decide))
  have o5 := f_rcmp v.y z.low.y (hv.2.mono (by decide)) (zb2.mono (by decide))
  have o6 := f_rcmp v.y z.high.y (hv.2.mono (by decide)) (zb4.mono (by decide))
  have hout : outB v z = (Nm.cmpQ (Nm.fitQ v.x) (Nm.fitQ z.low.x) < 0 ∨ 0 < Nm.cmpQ (Nm.fitQ v.x) (Nm.fitQ z.high.x) ∨ Nm.cmpQ (Nm.fitQ v.y) (Nm.fitQ z.low.y) < 0 ∨ 0 < Nm.cmpQ (Nm.fitQ v.y) (Nm.fitQ z.high.y)) := rfl
  generalize Nm.cmpQ (Nm.fitQ v.x) (Nm.fitQ z.low.x) = x1 at *
  generalize Nm.cmpQ (Nm.fitQ v.x) (Nm.fitQ z.high.x) = x2 at *
  generalize Nm.cmpQ (Nm.fitQ v.y) (Nm.fitQ z.low.y) = x3 at *
  generalize Nm.cmpQ (Nm.fitQ v.y) (Nm.fitQ z.high.y) = x4 at *
  obtain ⟨arms, walls, parts, slots, gates, walk⟩ := w
  obtain ⟨tick, sarms, sparts, people, sgates⟩ := s
  simp only at n3 n4 n5 hgl hz ho hgi ⊢
  simp only [ir_move_Enter, frOf, TT, II, OA, OB, OC, MM, LL, VV, FF, MG, LG, VG, FG]
  simp only [Wk.c, Wk.enc, Stt.c, Stt.enc, ams, wls, pts, sls, gts, asts, frs, vts, bls, rc, Vt.c, Vt.enc, sb, ints] at hck hcp o1 o2 o3 o4 o5 o6 ⊢
  have e1 : decide ((g : Int) < 0) = false := decide_eq_false (by omega)
  have e2 : decide ((gates.length : Int) ≤ (g : Int)) = false := decide_eq_false (by omega)
  (repeat first | refine uA ?_ | (apply S.exit; exact rfl) | ((with_reducible refine And.intro ?_ ?_); focus first | omega | trivial | exact id | (intros; simp_all <;> omega)) | simp (disch := omega) only [go_sem, Nat.reduceBEq, Nat.reduceAdd, Nat.reduceLeDiff, Int.reduceToNat, Int.reducePow, ww] | (refine uD hck ?_ ?_ ?_; exact tz hw; exact rfl))
  refine S.cond rfl (fun hc => by simp at hc) (fun hc => ?_)
  (repeat first | refine uA ?_ | (apply S.exit; exact rfl) | ((with_reducible refine And.intro ?_ ?_); focus first | omega | trivial | exact id | (intros; simp_all <;> omega)) | simp (disch := omega) only [go_sem, Nat.reduceBEq, Nat.reduceAdd, Nat.reduceLeDiff, Int.reduceToNat, Int.reducePow, ww, List.length_map, e1, e2] | (refine uD o1 ?_ ?_ ?_; exact tz hw; exact rfl) | (refine uD o2 ?_ ?_ ?_; exact tz hw; exact rfl))
  refine S.cond rfl (fun hc => by simp at hc) (fun hc => ?_)
  (repeat first | refine uA ?_ | (apply S.exit; exact rfl) | ((with_reducible refine And.intro ?_ ?_); focus first | omega | trivial | exact id | (intros; simp_all <;> omega)) | simp (disch := omega) only [go_sem, Nat.reduceBEq, Nat.reduceAdd, Nat.reduceLeDiff, Int.reduceToNat, Int.reducePow, ww, List.length_map, hz, ho, Option.map_some, Gt.enc, sb, Int.toNat_natCast])
  by_cases c1 : o = false
  · rw [if_pos c1]
    refine S.cond rfl (fun hc => ?_) (fun hc => by simp at hc; rw [hc] at c1; cases c1)
    (repeat first | refine uA ?_ | (apply S.exit; exact rfl) | ((with_reducible refine And.intro ?_ ?_); focus first | omega | trivial | exact id | (intros; simp_all <;> omega)) | simp (disch := omega) only [go_sem, Nat.reduceBEq, Nat.reduceAdd, Nat.reduceLeDiff, Int.reduceToNat, Int.reducePow, ww])
    (refine S.done ?_; simp only [retP, loadP, go_sem, Nat.reduceBEq, Nat.reduceAdd, Nat.reduceLeDiff, Int.reduceToNat, Int.reducePow]; (repeat (refine ⟨?_, ?_⟩; focus first | trivial | omega | simp)); exact RetOK.out rfl (Imp.tup (by (repeat' (first | exact ImpL.nil | exact Imp.refl rfl | exact Imp.frz rfl rfl rfl | exact Imp.nilsl | refine Imp.agg ?_ | refine ImpL.cons ?_ ?_)))) rfl)
  rw [if_neg c1]
  refine S.cond rfl (fun hc => by simp at hc; exact absurd hc c1) (fun hc => ?_)
  (repeat first | refine uA ?_ | (apply S.exit; exact rfl) | ((with_reducible refine And.intro ?_ ?_); focus first | omega | trivial | exact id | (intros; simp_all <;> omega)) | simp (disch := omega) only [go_sem, Nat.reduceBEq, Nat.reduceAdd, Nat.reduceLeDiff, Int.reduceToNat, Int.reducePow, ww] | (refine uD o3 ?_ ?_ ?_; exact tz hw; exact rfl) | (refine uD o4 ?_ ?_ ?_; exact tz hw; exact rfl) | (refine uD o5 ?_ ?_ ?_; exact tz hw; exact rfl) | (refine uD o6 ?_ ?_ ?_; exact tz hw; exact rfl))
  by_cases c2 : outB v z
  · rw [if_pos c2]
    rw [hout] at c2
    refine S.cond rfl (fun hc => ?_) (fun hc => by simp only [Bool.or_eq_false_iff, decide_eq_false_iff_not] at hc; omega)
    (repeat first | refine uA ?_ | (apply S.exit; exact rfl) | ((with_reducible refine And.intro ?_ ?_); focus first | omega | trivial | exact id | (intros; simp_all <;> omega)) | simp (disch := omega) only [go_sem, Nat.reduceBEq, Nat.reduceAdd, Nat.reduceLeDiff, Int.reduceToNat, Int.reducePow, ww])
    (refine S.done ?_; simp only [retP, loadP, go_sem, Nat.reduceBEq, Nat.reduceAdd, Nat.reduceLeDiff, Int.reduceToNat, Int.reducePow]; (repeat (refine ⟨?_, ?_⟩; focus first | trivial | omega | simp)); exact RetOK.out rfl (Imp.tup (by (repeat' (first | exact ImpL.nil | exact Imp.refl rfl | exact Imp.frz rfl rfl rfl | exact Imp.nilsl | refine Imp.agg ?_ | refine ImpL.cons ?_ ?_)))) rfl)
  rw [if_neg c2]
  rw [hout] at c2
  refine S.cond rfl (fun hc => by simp only [Bool.or_eq_true, decide_eq_true_eq] at hc; omega) (fun hc => ?_)
  (repeat first | refine uA ?_ | (apply S.exit; exact rfl) | ((with_reducible refine And.intro ?_ ?_); focus first | omega | trivial | exact id | (intros; simp_all <;> omega)) | simp (disch := omega) only [go_sem, Nat.reduceBEq, Nat.reduceAdd, Nat.reduceLeDiff, Int.reduceToNat, Int.reducePow, ww, List.length_map])
  by_cases c3 : people.length = 4
  · rw [if_pos c3]
    refine S.cond rfl (fun hc => ?_) (fun hc => by simp at hc; omega)
    (repeat first | refine uA ?_ | (apply S.exit; exact rfl) | ((with_reducible refine And.intro ?_ ?_); focus first | omega | trivial | exact id | (intros; simp_all <;> omega)) | simp (disch := omega) only [go_sem, Nat.reduceBEq, Nat.reduceAdd, Nat.reduceLeDiff, Int.reduceToNat, Int.reducePow, ww])
    (refine S.done ?_; simp only [retP, loadP, go_sem, Nat.reduceBEq, Nat.reduceAdd, Nat.reduceLeDiff, Int.reduceToNat, Int.reducePow]; (repeat (refine ⟨?_, ?_⟩; focus first | trivial | omega | simp)); exact RetOK.out rfl (Imp.tup (by (repeat' (first | exact ImpL.nil | exact Imp.refl rfl | exact Imp.frz rfl rfl rfl | exact Imp.nilsl | refine Imp.agg ?_ | refine ImpL.cons ?_ ?_)))) rfl)
  rw [if_neg c3]
  refine S.cond rfl (fun hc => by simp at hc; omega) (fun hc => ?_)
  (repeat first | refine uA ?_ | (apply S.exit; exact rfl) | ((with_reducible refine And.intro ?_ ?_); focus first | omega | trivial | exact id | (intros; simp_all <;> omega)) | simp (disch := omega) only [go_sem, Nat.reduceBEq, Nat.reduceAdd, Nat.reduceLeDiff, Int.reduceToNat, Int.reducePow, ww, C.sh, C.shL, List.length_cons, List.length_nil, List.length_map] | refine CallOK.t (CallT.pre (hcp _ rfl) rfl rfl rfl) ?_)
  simp only [List.map_append, List.map_cons, List.map_nil, Vt.enc, sb]
  (refine S.done ?_; simp only [retP, loadP, go_sem, Nat.reduceBEq, Nat.reduceAdd, Nat.reduceLeDiff, Int.reduceToNat, Int.reducePow]; (repeat (refine ⟨?_, ?_⟩; focus first | trivial | omega | simp)); exact RetOK.out rfl (Imp.tup (by (repeat' (first | exact ImpL.nil | exact Imp.refl rfl | exact Imp.frz rfl rfl rfl | exact Imp.nilsl | refine Imp.agg ?_ | refine ImpL.cons ?_ ?_)))) rfl)
end Go.Proofs.YtfadociodcmhfaaGreatDoor
namespace Go.Proofs.YtfadociodcmhfaaGreatDoor
set_option linter.all false
open Go Go.RowKit Eng
set_option maxRecDepth 100000
set_option maxHeartbeats 16000000
theorem rb_zero : Rb 8 (Nm.ofQ 0) := ⟨Nm.enc_len_le (by decide), Nm.enc_len_le (by decide)⟩
theorem q_of0 : FZ 85 [.v (.int .i64 0)] (rq 0) := by
  have := f_rof 0 (by decide) (by decide)
  rwa [show ((0 : Int) : Rat) = 0 from rfl] at this
theorem f_fzero : FZ 144 [] zeroF.c := by
  refine FSpecW.of fn_frame_Zero ok_frame_Zero (by exact Nat.le_of_ble_eq_true rfl) fun w O hw => ?_
  have h1 := q_of0
  have h2 := f_tof (Nm.ofQ 0) (rb_zero.mono (by decide))
  rw [Nm.fit_of] at h2
  unfold tq rq at *
  unfold zeroF
  generalize Nm.ofQ 0 = r at *
  simp only [ir_frame_Zero, frOf, TT, II, OA, OB, OC, MM, LL, VV, FF, MG, LG, VG, FG]
  simp only [Fr.c, Fr.enc, rc, tc, sb] at *
  (repeat first | refine uA ?_ | (apply S.exit; exact rfl) | ((with_reducible refine And.intro ?_ ?_); focus first | omega | trivial | exact id | (intros; simp_all <;> omega)) | simp (disch := omega) only [go_sem, Nat.reduceBEq, Nat.reduceAdd, Nat.reduceLeDiff, Int.reduceToNat, Int.reducePow, ww] | (refine uD h1 ?_ ?_ ?_; exact tz hw; exact rfl) | (refine uD h2 ?_ ?_ ?_; exact tz hw; exact rfl))
  (refine S.done ?_; simp only [retP, loadP, go_sem, Nat.reduceBEq, Nat.reduceAdd, Nat.reduceLeDiff, Int.reduceToNat, Int.reducePow]; (repeat (refine ⟨?_, ?_⟩; focus first | trivial | omega | simp)); exact RetOK.out rfl (Imp.refl rfl) rfl)
theorem f_first (w : Wk) (hwb : Wb 1073741824 w) (h : worksE w = 0) : FZ 50 [w.c] (.tup [(firstS w).c, ints 0]) := by
  refine FSpecW.of fn_world_First ok_world_First (by exact Nat.le_of_ble_eq_true rfl) fun w' O hw => ?_
  have hck := f_worksE w hwb
  rw [h] at hck
  obtain ⟨n1, b1⟩ := hwb.arms
  have n3 := hwb.parts.1
  have n4 := hwb.slots.1
  have n5 := hwb.gates.1
  have hz := q_of0
  have hfz := f_fzero
  have hpe : ∀ i, firstP w i = if h : i < w.slots.length then (w.slots[i]).frame else zeroF := fun _ => rfl
  unfold firstS
  generalize hfp : firstP w = fP at *
  obtain ⟨arms, walls, parts, slots, gates, walk⟩ := w
  simp only at n1 b1 n3 n4 n5 hpe ⊢
  simp only [ir_world_First, frOf, TT, II, OA, OB, OC, MM, LL, VV, FF, MG, LG, VG, FG]
  simp only [Wk.c, Wk.enc, Stt.c, Stt.enc, ams, wls, pts, sls, gts, asts, frs, vts, bls, rc, sb, ints] at hck ⊢
  (repeat first | refine uA ?_ | (apply S.exit; exact rfl) | ((with_reducible refine And.intro ?_ ?_); focus first | omega | trivial | exact id | (intros; simp_all <;> omega)) | simp (disch := omega) only [go_sem, Nat.reduceBEq, Nat.reduceAdd, Nat.reduceLeDiff, Int.reduceToNat, Int.reducePow, ww] | (refine uD hck ?_ ?_ ?_; exact tz hw; exact rfl))
  refine S.cond rfl (fun hc => by simp at hc) (fun hc => ?_)
  (repeat first | refine uA ?_ | (apply S.exit; exact rfl) | ((with_reducible refine And.intro ?_ ?_); focus first | omega | trivial | exact id | (intros; simp_all <;> omega)) | simp (disch := omega) only [go_sem, Nat.reduceBEq, Nat.reduceAdd, Nat.reduceLeDiff, Int.reduceToNat, Int.reducePow, ww, List.length_map])
  refine S.loop (X := Nat) (fun i => ⟨[(1, .bp 0 0), (2, .bp 1 0), (5, .bp 2 0), (20, ams arms), (21, ints arms.length), (22, ints i)], [.box 31 [ams arms, wls walls, pts parts, sls slots, gts gates, .v (.bool walk.neg), sb walk.num, sb walk.den], .box 37 [.v (.int .i64 0), .v (.slice none 0 0), .v (.slice none 0 0), .v (.slice none 0 0), .v (.slice none 0 0)], .box 37 [.v (.int .i64 0), .rv 3, .rv 4, .v (.slice none 0 0), .v (.slice none 0 0)], .row 85 4 (((arms.take i).map firstA).map Ast.enc), .row 48 10 []]⟩) (fun i => i ≤ arms.length) (fun i => arms.length - i) 0 (Nat.zero_le _)
    (Ent.trans (Ent.packB 2 1 85 4 rfl rfl rfl) (Ent.trans (Ent.packB 2 2 48 10 rfl rfl rfl) (by (repeat first | refine uA ?_ | (refine ⟨?_, ?_⟩; focus first | rfl | trivial | (simp [slot]; done)) | rfl | trivial | simp)))) ?_
  intro i hi
  simp only [ams, wls, pts, sls, gts, vts, sb, ints]
  (repeat first | refine uA ?_ | (apply S.exit; exact rfl) | ((with_reducible refine And.intro ?_ ?_); focus first | omega | trivial | exact id | (intros; simp_all <;> omega)) | simp (disch := omega) only [go_sem, Nat.reduceBEq, Nat.reduceAdd, Nat.reduceLeDiff, Int.reduceToNat, Int.reducePow, ww])
  (refine uJ rfl (fun hc => ?_) fun hc => ?_)
  · have hi' : i < arms.length := by omega
    have hgi := List.getElem?_eq_getElem hi'
    have hap : arms.take (i + 1) = arms.take i ++ [arms[i]] := List.take_succ_eq_append_getElem hi'
    have htl : (arms.take i).length = i := by rw [List.length_take]; omega
    generalize arms[i] = a at hgi hap
    obtain ⟨b0, _, nl, bl⟩ := b1 a (List.mem_of_getElem? hgi)
    (repeat first | refine uA ?_ | (apply S.exit; exact rfl) | ((with_reducible refine And.intro ?_ ?_); focus first | omega | trivial | exact id | (intros; simp_all <;> omega)) | simp (disch := omega) only [go_sem, Nat.reduceBEq, Nat.reduceAdd, Nat.reduceLeDiff, Int.reduceToNat, Int.reducePow, ww, hgi, Option.map_some, List.length_map, Am.enc, lks, sb])
    refine S.loop (X := Nat) (fun k => ⟨[(1, .bp 0 0), (2, .bp 1 0), (5, .bp 2 0), (8, .bp 6 0), (20, ams arms), (21, ints arms.length), (22, ints i), (28, lks a.links), (29, ints a.links.length), (30, ints k)], [.box 31 [ams arms, wls walls, pts parts, sls slots, gts gates, .v (.bool walk.neg), sb walk.num, sb walk.den], .box 37 [.v (.int .i64 0), .v (.slice none 0 0), .v (.slice none 0 0), .v (.slice none 0 0), .v (.slice none 0 0)], .box 37 [.v (.int .i64 0), .rv 3, .rv 4, .v (.slice none 0 0), .v (.slice none 0 0)], .row 85 4 (((arms.take i).map firstA).map Ast.enc), .row 48 10 [], .gone, .box 85 [.rv 7, .rv 8, .v (.bool false), .v (.int .i64 (-1))], .row 29 3 (((a.links.take k).map firstQ).map rcs), .row 29 3 (((a.links.take k).map fun _ => Nm.ofQ 0).map rcs)]⟩) (fun k => k ≤ a.links.length) (fun k => a.links.length - k) 0 (Nat.zero_le _)
      (Ent.trans (Ent.packB 6 0 29 3 rfl rfl rfl) (Ent.trans (Ent.packB 6 1 29 3 rfl rfl rfl) (by (repeat first | refine uA ?_ | (refine ⟨?_, ?_⟩; focus first | rfl | trivial | (simp [slot]; done)) | rfl | trivial | simp)))) ?_
    intro k hk
    simp only [ams, wls, pts, sls, gts, lks, vts, sb, ints]
    (repeat first | refine uA ?_ | (apply S.exit; exact rfl) | ((with_reducible refine And.intro ?_ ?_); focus first | omega | trivial | exact id | (intros; simp_all <;> omega)) | simp (disch := omega) only [go_sem, Nat.reduceBEq, Nat.reduceAdd, Nat.reduceLeDiff, Int.reduceToNat, Int.reducePow, ww])
    (refine uJ rfl (fun hc => ?_) fun hc => ?_)
    · have hk' : k < a.links.length := by omega
      have hgk := List.getElem?_eq_getElem hk'
      have hak : a.links.take (k + 1) = a.links.take k ++ [a.links[k]] := List.take_succ_eq_append_getElem hk'
      have htk : (a.links.take k).length = k := by rw [List.length_take]; omega
      generalize a.links[k] = l at hgk hak
      obtain ⟨_, l2, l3, _⟩ := bl l (List.mem_of_getElem? hgk)
      have z1 := rb_zero
      have z2 := l3.fit (by decide)
      have o1 := f_rmin l.high (Nm.ofQ 0) (l3.mono (by decide)) (rb_zero.mono (by decide))
      rw [Nm.fit_of] at o1
      have z3 : Rb 1073741824 (Nm.ofQ (minQ (Nm.fitQ l.high) 0)) := by unfold minQ; split; exact z2; exact z1.mono (by decide)
      have o2 := f_rmax l.low (Nm.ofQ (minQ (Nm.fitQ l.high) 0)) (l2.mono (by decide)) (z3.mono (by decide))
      rw [Nm.fit_of] at o2
      have hq : firstQ l = Nm.ofQ (maxQ (Nm.fitQ l.low) (minQ (Nm.fitQ l.high) 0)) := rfl
      unfold rq at o1 o2 hz
      generalize Nm.ofQ (maxQ (Nm.fitQ l.low) (minQ (Nm.fitQ l.high) 0)) = r2 at *
      generalize Nm.ofQ (minQ (Nm.fitQ l.high) 0) = r1 at *
      generalize Nm.ofQ 0 = r0 at *
      simp only [rc, sb] at o1 o2 hz
      (repeat first | refine uA ?_ | (apply S.exit; exact rfl) | ((with_reducible refine And.intro ?_ ?_); focus first | omega | trivial | exact id | (intros; simp_all <;> omega)) | simp (disch := omega) only [go_sem, Nat.reduceBEq, Nat.reduceAdd, Nat.reduceLeDiff, Int.reduceToNat, Int.reducePow, ww, hgk, Option.map_some, List.length_map, htk, Lk.enc, vts, sb] | (refine uD hz ?_ ?_ ?_; exact tz hw; exact rfl) | (refine uD o1 ?_ ?_ ?_; exact tz hw; exact rfl) | (refine uD o2 ?_ ?_ ?_; exact tz hw; exact rfl))
      refine S.next (k + 1) (by omega) (by omega) (by simp only [hak, hq, List.map_append, List.map_cons, List.map_nil, rcs, sb]; exact (by (repeat first | refine uA ?_ | (refine ⟨?_, ?_⟩; focus first | rfl | trivial | (simp [slot]; done)) | rfl | trivial | simp)))
    · have hk' : k = a.links.length := by omega
      subst hk'
      rw [List.take_length]
      refine S.exit rfl ?_
      refine S.weaken (st' := ⟨[(1, .bp 0 0), (2, .bp 1 0), (5, .bp 2 0), (8, .bp 6 0), (20, ams arms), (21, ints arms.length), (22, ints i)], [.box 31 [ams arms, wls walls, pts parts, sls slots, gts gates, .v (.bool walk.neg), sb walk.num, sb walk.den], .box 37 [.v (.int .i64 0), .v (.slice none 0 0), .v (.slice none 0 0), .v (.slice none 0 0), .v (.slice none 0 0)], .box 37 [.v (.int .i64 0), .rv 3, .rv 4, .v (.slice none 0 0), .v (.slice none 0 0)], .row 85 4 (((arms.take i).map firstA).map Ast.enc), .row 48 10 [], .gone, .box 85 (firstA a).enc]⟩) (Ent.mk _ _ (by (repeat first | refine uA ?_ | (refine ⟨?_, ?_⟩; focus first | rfl | trivial | (simp [slot]; done)) | rfl | trivial | simp)) (by (repeat' (first | exact rsOK.nil | exact RI.gone _ | exact RI.row _ _ _ _ rfl | exact RI.map _ _ _ rfl | exact RI.box _ _ _ (ImpL.refl rfl) | (refine RI.box _ _ _ ?_; (repeat' (first | exact ImpL.nil | exact Imp.refl rfl | exact Imp.frz rfl rfl rfl | exact Imp.nilsl | refine ImpL.cons ?_ ?_))) | refine rsOK.cons ?_ ?_))) (Nat.zero_le _)) ?_
      simp only [ams, wls, pts, sls, gts, vts, sb, ints, Ast.enc, rts]
      (repeat first | refine uA ?_ | (apply S.exit; exact rfl) | ((with_reducible refine And.intro ?_ ?_); focus first | omega | trivial | exact id | (intros; simp_all <;> omega)) | simp (disch := omega) only [go_sem, Nat.reduceBEq, Nat.reduceAdd, Nat.reduceLeDiff, Int.reduceToNat, Int.reducePow, ww, List.length_map, htl])
      refine S.next (i + 1) (by omega) (by omega) (by simp only [hap, List.map_append, List.map_cons, List.map_nil, Ast.enc, rts, ints]; exact (by (repeat first | refine uA ?_ | (refine ⟨?_, ?_⟩; focus first | rfl | trivial | (simp [slot]; done)) | rfl | trivial | simp)))
  · have hi' : i = arms.length := by omega
    subst hi'
    rw [List.take_length]
    (repeat first | refine uA ?_ | (apply S.exit; exact rfl) | ((with_reducible refine And.intro ?_ ?_); focus first | omega | trivial | exact id | (intros; simp_all <;> omega)) | simp (disch := omega) only [go_sem, Nat.reduceBEq, Nat.reduceAdd, Nat.reduceLeDiff, Int.reduceToNat, Int.reducePow, ww, List.length_map])
    refine S.loop (X := Nat) (fun i => ⟨[(1, .bp 0 0), (2, .bp 1 0), (5, .bp 2 0), (62, ints parts.length), (63, ints i)], [.box 31 [ams arms, wls walls, pts parts, sls slots, gts gates, .v (.bool walk.neg), sb walk.num, sb walk.den], .box 37 [.v (.int .i64 0), .v (.slice none 0 0), .v (.slice none 0 0), .v (.slice none 0 0), .v (.slice none 0 0)], .box 37 [.v (.int .i64 0), .rv 3, .rv 4, .v (.slice none 0 0), .v (.slice none 0 0)], .row 85 4 ((arms.map firstA).map Ast.enc), .row 48 10 (((List.range i).map fP).map Fr.enc)]⟩) (fun i => i ≤ parts.length) (fun i => parts.length - i) 0 (Nat.zero_le _) (by (repeat first | refine uA ?_ | (refine ⟨?_, ?_⟩; focus first | rfl | trivial | (simp [slot]; done)) | rfl | trivial | simp)) ?_
    intro i hi
    simp only [ams, wls, pts, sls, gts, vts, sb, ints]
    (repeat first | refine uA ?_ | (apply S.exit; exact rfl) | ((with_reducible refine And.intro ?_ ?_); focus first | omega | trivial | exact id | (intros; simp_all <;> omega)) | simp (disch := omega) only [go_sem, Nat.reduceBEq, Nat.reduceAdd, Nat.reduceLeDiff, Int.reduceToNat, Int.reducePow, ww])
    (refine uJ rfl (fun hc => ?_) fun hc => ?_)
    · have hrl : ((List.range i).map fP).length = i := by simp
      simp only [zeroF, Fr.c, Fr.enc, sb] at hfz
      (repeat first | refine uA ?_ | (apply S.exit; exact rfl) | ((with_reducible refine And.intro ?_ ?_); focus first | omega | trivial | exact id | (intros; simp_all <;> omega)) | simp (disch := omega) only [go_sem, Nat.reduceBEq, Nat.reduceAdd, Nat.reduceLeDiff, Int.reduceToNat, Int.reducePow, ww] | (refine uD hfz ?_ ?_ ?_; exact tz hw; exact rfl))
      refine S.join (Y := Fr) (fun f => ⟨[(1, .bp 0 0), (2, .bp 1 0), (5, .bp 2 0), (12, .bp 5 0), (62, ints parts.length), (63, ints i)], [.box 31 [ams arms, wls walls, pts parts, sls slots, gts gates, .v (.bool walk.neg), sb walk.num, sb walk.den], .box 37 [.v (.int .i64 0), .v (.slice none 0 0), .v (.slice none 0 0), .v (.slice none 0 0), .v (.slice none 0 0)], .box 37 [.v (.int .i64 0), .rv 3, .rv 4, .v (.slice none 0 0), .v (.slice none 0 0)], .row 85 4 ((arms.map firstA).map Ast.enc), .row 48 10 (((List.range i).map fP).map Fr.enc), .box 48 f.enc]⟩) (fun f => f = fP i) ?_ ?_
      · refine S.cond rfl (fun hc => ?_) (fun hc => ?_)
        · have hsi : i < slots.length := by simp at hc; omega
          have hgs := List.getElem?_eq_getElem hsi
          have hf : fP i = (slots[i]).frame := by rw [hpe i, dif_pos hsi]
          generalize slots[i] = s at hgs hf
          (repeat first | refine uA ?_ | (apply S.exit; exact rfl) | ((with_reducible refine And.intro ?_ ?_); focus first | omega | trivial | exact id | (intros; simp_all <;> omega)) | simp (disch := omega) only [go_sem, Nat.reduceBEq, Nat.reduceAdd, Nat.reduceLeDiff, Int.reduceToNat, Int.reducePow, ww, hgs, Option.map_some, List.length_map, Sl.enc, sb, Int.toNat_natCast])
          exact S.met s.frame hf.symm (by simp only [ams, wls, pts, sls, gts, vts, sb, ints, Fr.enc]; exact (by (repeat first | refine uA ?_ | (refine ⟨?_, ?_⟩; focus first | rfl | trivial | (simp [slot]; done)) | rfl | trivial | simp)))
        · have hf : fP i = zeroF := by rw [hpe i, dif_neg (by simp at hc; omega)]
          (repeat first | refine uA ?_ | (apply S.exit; exact rfl) | ((with_reducible refine And.intro ?_ ?_); focus first | omega | trivial | exact id | (intros; simp_all <;> omega)) | simp (disch := omega) only [go_sem, Nat.reduceBEq, Nat.reduceAdd, Nat.reduceLeDiff, Int.reduceToNat, Int.reducePow, ww])
          exact S.met zeroF hf.symm (by simp only [ams, wls, pts, sls, gts, vts, sb, ints, Fr.enc, zeroF]; exact (by (repeat first | refine uA ?_ | (refine ⟨?_, ?_⟩; focus first | rfl | trivial | (simp [slot]; done)) | rfl | trivial | simp)))
      rintro f hf
      simp only [ams, wls, pts, sls, gts, vts, sb, ints, Fr.enc]
      (repeat first | refine uA ?_ | (apply S.exit; exact rfl) | ((with_reducible refine And.intro ?_ ?_); focus first | omega | trivial | exact id | (intros; simp_all <;> omega)) | simp (disch := omega) only [go_sem, Nat.reduceBEq, Nat.reduceAdd, Nat.reduceLeDiff, Int.reduceToNat, Int.reducePow, ww, List.length_map, hrl, List.length_range])
      refine S.next (i + 1) (by omega) (by omega) (by simp only [List.range_succ, List.map_append, List.map_cons, List.map_nil, ← hf, Fr.enc, sb]; exact (by (repeat first | refine uA ?_ | (refine ⟨?_, ?_⟩; focus first | rfl | trivial | (simp [slot]; done)) | rfl | trivial | simp)))
    · have hi' : i = parts.length := by omega
      subst hi'
      simp only [List.map_replicate]
      (repeat first | refine uA ?_ | (apply S.exit; exact rfl) | ((with_reducible refine And.intro ?_ ?_); focus first | omega | trivial | exact id | (intros; simp_all <;> omega)) | simp (disch := omega) only [go_sem, Nat.reduceBEq, Nat.reduceAdd, Nat.reduceLeDiff, Int.reduceToNat, Int.reducePow, ww, List.length_map, Int.toNat_natCast])
      (refine S.done ?_; simp only [retP, loadP, go_sem, Nat.reduceBEq, Nat.reduceAdd, Nat.reduceLeDiff, Int.reduceToNat, Int.reducePow]; (repeat (refine ⟨?_, ?_⟩; focus first | trivial | omega | simp)); exact RetOK.out rfl (Imp.tup (by (repeat' (first | exact ImpL.nil | exact Imp.refl rfl | exact Imp.frz rfl rfl rfl | exact Imp.nilsl | refine Imp.agg ?_ | refine ImpL.cons ?_ ?_)))) rfl)
end Go.Proofs.YtfadociodcmhfaaGreatDoor
namespace Go.Proofs.YtfadociodcmhfaaGreatDoor
set_option linter.all false
open Go Go.RowKit Eng
set_option maxRecDepth 10000
set_option maxHeartbeats 8000000
theorem gbelow_eq (x n : Int) (h : 1 ≤ n) : x % n = (if x.tmod n < 0 then x.tmod n + n else x.tmod n) ∧ -n < x.tmod n ∧ x.tmod n < n := by
  have hq : x = n * (x.tdiv n) + x.tmod n := (Int.mul_tdiv_add_tmod x n).symm
  have he : x % n = x.tmod n % n := by
    conv => lhs; rw [hq]
    exact Int.mul_add_emod_self_left ..
  have h2 := Int.tmod_lt_of_pos x (show 0 < n by omega)
  have h3 : -n < x.tmod n := by
    have := Int.tmod_lt_of_pos (-x) (show 0 < n by omega)
    rw [Int.neg_tmod] at this
    omega
  refine ⟨?_, h3, h2⟩
  rw [he]
  split
  · rename_i hc
    have : x.tmod n % n = (x.tmod n + n) % n := by simp
    rw [this]
    exact Int.emod_eq_of_lt (by omega) (by omega)
  · exact Int.emod_eq_of_lt (by omega) (by omega)
theorem f_gbelow (x n : Int) (h : 1 ≤ n ∧ n ≤ 4611686018427387904) : FSpec Tryz.prog 19 [ints x, ints n] (ints (x % n)) := by
  refine FSpec.of fn_gantmake_Below ok_gantmake_Below (by exact Nat.le_of_ble_eq_true rfl) fun w O => ?_
  simp only [ir_gantmake_Below, frOf, TT, II, OA, OB, OC, MM, LL, VV, FF, MG, LG, VG, FG, ints]
  have hn : ¬ n = 0 := by omega
  obtain ⟨he, hlt⟩ := gbelow_eq x n (by omega)
  (repeat first | refine uA ?_ | (apply S.exit; exact rfl) | ((with_reducible refine And.intro ?_ ?_); focus first | omega | trivial | exact id | (intros; simp_all <;> omega)) | simp (disch := omega) only [go_sem, Nat.reduceBEq, Nat.reduceAdd, Nat.reduceLeDiff, Int.reduceToNat, Int.reducePow, ww, hn])
  (refine uJ rfl (fun hc => ?_) fun hc => ?_)
  · rw [he, if_pos hc]
    (repeat first | refine uA ?_ | (apply S.exit; exact rfl) | ((with_reducible refine And.intro ?_ ?_); focus first | omega | trivial | exact id | (intros; simp_all <;> omega)) | simp (disch := omega) only [go_sem, Nat.reduceBEq, Nat.reduceAdd, Nat.reduceLeDiff, Int.reduceToNat, Int.reducePow, ww])
    exact S.done (RetOK.out rfl (Imp.refl rfl) rfl)
  · rw [he, if_neg hc]
    (repeat first | refine uA ?_ | (apply S.exit; exact rfl) | ((with_reducible refine And.intro ?_ ?_); focus first | omega | trivial | exact id | (intros; simp_all <;> omega)) | simp (disch := omega) only [go_sem, Nat.reduceBEq, Nat.reduceAdd, Nat.reduceLeDiff, Int.reduceToNat, Int.reducePow, ww])
    exact S.done (RetOK.out rfl (Imp.refl rfl) rfl)
def raws (l : List Int) : C := .sl 1 (l.map fun n => [.v (.int .i64 n)])
theorem h_next {E : Ctx} (hP : E.P = Tryz.prog) (l : List Int) (n : Int) (h : 1 ≤ n ∧ n ≤ 4611686018427387904) :
    CallT E [.box 200 [raws l]] 145 [.bp 0 0, ints n] (ints (nx l n)) [.box 200 [raws (l.drop 1)]] [] := by
  obtain ⟨P, eff', N, w0, own0, av0, nu0, pk0⟩ := E
  simp only at hP
  subst hP
  refine CallT.of (eff := eff) fn_gantmake_Stream_Next ok_gantmake_Stream_Next (by exact Nat.le_of_ble_eq_true rfl) fun w own av ν hν => ?_
  have hν0 : ν.length ≤ 1 := by rw [hν]; exact Nat.le_refl _
  have hn1 : decide (n < 1) = false := decide_eq_false (by omega)
  cases l with
  | nil =>
    have e : nx [] n = 0 := by unfold nx; rw [List.headD_nil, Int.zero_emod]
    rw [e]
    simp only [ir_gantmake_Stream_Next, frOf, TT, II, OA, OB, OC, MM, LL, VV, FF, MG, LG, VG, FG, raws, ints, List.drop_nil, List.map_nil]
    (repeat first | refine uA ?_ | (apply S.exit; exact rfl) | ((with_reducible refine And.intro ?_ ?_); focus first | omega | trivial | exact id | (intros; simp_all <;> omega)) | simp (disch := omega) only [go_sem, Nat.reduceBEq, Nat.reduceAdd, Nat.reduceLeDiff, Int.reduceToNat, Int.reducePow, ww, hn1, List.length_nil])
    refine S.cond rfl (fun hc => ?_) (fun hc => by simp at hc)
    (repeat first | refine uA ?_ | (apply S.exit; exact rfl) | ((with_reducible refine And.intro ?_ ?_); focus first | omega | trivial | exact id | (intros; simp_all <;> omega)) | simp (disch := omega) only [go_sem, Nat.reduceBEq, Nat.reduceAdd, Nat.reduceLeDiff, Int.reduceToNat, Int.reducePow, ww])
    (refine S.done ?_; simp only [retP, loadP, go_sem, Nat.reduceBEq, Nat.reduceAdd, Nat.reduceLeDiff, Int.reduceToNat, Int.reducePow]; (repeat (refine ⟨?_, ?_⟩; focus first | trivial | omega | simp)); exact RetOK.ownW (Imp.refl rfl) (by (repeat first | refine uA ?_ | (refine ⟨?_, ?_⟩; focus first | rfl | trivial | (simp [slot]; done)) | rfl | trivial | simp)) (Nat.le_trans hν0 (by simp)))
  | cons x r =>
    have e : nx (x :: r) n = x % n := by unfold nx; rw [List.headD_cons]
    rw [e]
    have hb := f_gbelow x n h
    have h0 : decide (((r.length : Int) + 1) = 0) = false := decide_eq_false (by omega)
    simp only [ir_gantmake_Stream_Next, frOf, TT, II, OA, OB, OC, MM, LL, VV, FF, MG, LG, VG, FG, raws, ints, List.map_cons, List.drop_succ_cons, List.drop_zero] at *
    (repeat first | refine uA ?_ | (apply S.exit; exact rfl) | ((with_reducible refine And.intro ?_ ?_); focus first | omega | trivial | exact id | (intros; simp_all <;> omega)) | simp (disch := omega) only [go_sem, Nat.reduceBEq, Nat.reduceAdd, Nat.reduceLeDiff, Int.reduceToNat, Int.reducePow, ww, hn1, h0, List.length_cons, List.length_map] | (refine uB hb ?_ ?_; exact rfl))
    refine S.cond rfl (fun hc => by simp at hc; omega) (fun hc => ?_)
    (repeat first | refine uA ?_ | (apply S.exit; exact rfl) | ((with_reducible refine And.intro ?_ ?_); focus first | omega | trivial | exact id | (intros; simp_all <;> omega)) | simp (disch := omega) only [go_sem, Nat.reduceBEq, Nat.reduceAdd, Nat.reduceLeDiff, Int.reduceToNat, Int.reducePow, ww, hn1, List.length_cons, List.length_map, List.getElem?_cons_zero, drop1_take, List.take_succ_cons, List.drop_succ_cons, Nat.add_sub_cancel, List.take_length] | (refine uB hb ?_ ?_; exact rfl))
    (refine S.done ?_; simp only [retP, loadP, go_sem, Nat.reduceBEq, Nat.reduceAdd, Nat.reduceLeDiff, Int.reduceToNat, Int.reducePow]; (repeat (refine ⟨?_, ?_⟩; focus first | trivial | omega | simp)); exact RetOK.ownW (Imp.refl rfl) (by (repeat first | refine uA ?_ | (refine ⟨?_, ?_⟩; focus first | rfl | trivial | (simp [slot]; done)) | rfl | trivial | simp)) (Nat.le_trans hν0 (by simp)))
end Go.Proofs.YtfadociodcmhfaaGreatDoor
namespace Go.Proofs.YtfadociodcmhfaaGreatDoor
set_option linter.all false
open Go Go.RowKit Eng
set_option maxRecDepth 10000
set_option maxHeartbeats 8000000
def revInv (l : List UInt8) (i : Nat) (out : List UInt8) : Prop :=
  out.length = l.length ∧ ∀ k, k < l.length → out[k]? = if k < i ∨ l.length - i ≤ k then l[l.length - 1 - k]? else l[k]?
theorem revInv_zero (l : List UInt8) : revInv l 0 l := ⟨rfl, fun k hk => by rw [if_neg (by omega)]⟩
theorem revInv_step {l out : List UInt8} {i : Nat} {x y : UInt8} (h : revInv l i out) (hi : i + 1 < l.length - i) (hx : out[i]? = some x) (hy : out[l.length - 1 - i]? = some y) : revInv l (i + 1) ((out.set i y).set (l.length - 1 - i) x) := by
  obtain ⟨h1, h2⟩ := h
  have e1 := h2 i (by omega)
  have e2 := h2 (l.length - 1 - i) (by omega)
  rw [if_neg (by omega), hx] at e1
  rw [if_neg (by omega), hy] at e2
  refine ⟨by simp [h1], fun k hk => ?_⟩
  by_cases k1 : k = l.length - 1 - i
  · subst k1
    rw [List.getElem?_set_self (by simp; omega), if_pos (by omega), e1]
    congr 1
    omega
  · rw [List.getElem?_set_ne (fun e => k1 e.symm)]
    by_cases k2 : k = i
    · subst k2
      rw [List.getElem?_set_self (by omega), if_pos (by omega), e2]
    · rw [List.getElem?_set_ne (fun e => k2 e.symm), h2 k hk]
      by_cases k3 : k < i ∨ l.length - i ≤ k
      · rw [if_pos k3, if_pos (by omega)]
      · rw [if_neg k3, if_neg (by omega)]
theorem revInv_end {l out : List UInt8} {i : Nat} (h : revInv l i out) (hi : l.length - i ≤ i + 1) : out = l.reverse := by
  obtain ⟨h1, h2⟩ := h
  apply List.ext_getElem?
  intro k
  rcases Nat.lt_or_ge k l.length with hk | hk
  · rw [h2 k hk, List.getElem?_reverse hk]
    by_cases k3 : k < i ∨ l.length - i ≤ k
    · rw [if_pos k3]
    · rw [if_neg k3, show l.length - 1 - k = k by omega]
  · rw [List.getElem?_eq_none (by omega), List.getElem?_eq_none (by simp; omega)]
theorem h_rev {E : Ctx} (hP : E.P = Tryz.prog) (l : List UInt8) (hl : l.length ≤ 1099511627776) : CallT E [.row 5 1 (l.map byteC)] 169 [.rv 0] (.tup []) [.row 5 1 (l.reverse.map byteC)] [] := by
  obtain ⟨P, eff', N, w0, own0, av0, nu0, pk0⟩ := E
  simp only at hP
  subst hP
  refine CallT.of (eff := eff) fn_slices_Reverse_byte_byte ok_slices_Reverse_byte_byte (by exact Nat.le_of_ble_eq_true rfl) fun w own av ν hν => ?_
  have hν0 : ν.length ≤ 1 := by rw [hν]; exact Nat.le_refl _
  simp only [ir_slices_Reverse_byte_byte, frOf, TT, II, OA, OB, OC, MM, LL, VV, FF, MG, LG, VG, FG]
  (repeat first | refine uA ?_ | (apply S.exit; exact rfl) | ((with_reducible refine And.intro ?_ ?_); focus first | omega | trivial | exact id | (intros; simp_all <;> omega)) | simp (disch := omega) only [go_sem, Nat.reduceBEq, Nat.reduceAdd, Nat.reduceLeDiff, Int.reduceToNat, Int.reducePow, ww, List.length_map])
  refine S.loop (X := Nat × List UInt8) (fun x => ⟨[(0, .rv 0), (2, ints x.1), (3, ints ((l.length : Int) - 1 - (x.1 : Int)))], [.row 5 1 (x.2.map byteC)]⟩) (fun x => x.1 ≤ l.length ∧ revInv l x.1 x.2) (fun x => l.length - x.1) (0, l) ⟨Nat.zero_le _, revInv_zero l⟩ (by simp only [Int.natCast_zero, Int.sub_zero]; exact (by (repeat first | refine uA ?_ | (refine ⟨?_, ?_⟩; focus first | rfl | trivial | (simp [slot]; done)) | rfl | trivial | simp | exact Nat.le_trans hν0 (by simp)))) ?_
  rintro ⟨i, out⟩ ⟨hi, hinv⟩
  simp only [ints] at hi hinv ⊢
  have hol := hinv.1
  (repeat first | refine uA ?_ | (apply S.exit; exact rfl) | ((with_reducible refine And.intro ?_ ?_); focus first | omega | trivial | exact id | (intros; simp_all <;> omega)) | simp (disch := omega) only [go_sem, Nat.reduceBEq, Nat.reduceAdd, Nat.reduceLeDiff, Int.reduceToNat, Int.reducePow, ww])
  (refine uJ rfl (fun hc => ?_) fun hc => ?_)
  · have gi : out[i]? = some (out[i]'(by omega)) := List.getElem?_eq_getElem (by omega)
    have gj : out[l.length - 1 - i]? = some (out[l.length - 1 - i]'(by omega)) := List.getElem?_eq_getElem (by omega)
    have hst := revInv_step hinv (by omega) gi gj
    have hsk : l.length - 1 - i ≠ i := by omega
    generalize out[i]'_ = xi at *
    generalize out[l.length - 1 - i]'_ = xj at *
    have gj2 : (out.set i xj)[l.length - 1 - i]? = some xj := by rw [List.getElem?_set_ne (Ne.symm hsk)]; exact gj
    have n0 : ((l.length : Int) - 1 - (i : Int)).toNat = l.length - 1 - i := by omega
    have e1 : (out.map byteC).set i [.v (.int .u8 ((xj.toNat : Nat) : Int))] = (out.set i xj).map byteC := by_set out i xj
    have e2 : ((out.set i xj).map byteC).set (l.length - 1 - i) [.v (.int .u8 ((xi.toNat : Nat) : Int))] = ((out.set i xj).set (l.length - 1 - i) xi).map byteC := by_set _ _ _
    have hr : (l.length : Int) - 1 - ((i + 1 : Nat) : Int) = (l.length : Int) - 1 - (i : Int) - 1 := by omega
    (repeat first | refine uA ?_ | (apply S.exit; exact rfl) | ((with_reducible refine And.intro ?_ ?_); focus first | omega | trivial | exact id | (intros; simp_all <;> omega)) | simp (disch := omega) only [go_sem, Nat.reduceBEq, Nat.reduceAdd, Nat.reduceLeDiff, Int.reduceToNat, Int.reducePow, ww, List.length_map, gi, gj, gj2, n0, e1, e2, byteC, Option.map_some, Int.toNat_natCast, List.length_set])
    refine S.next (x := (i, out)) (i + 1, _) ⟨by simp only; omega, hst⟩ (by simp only; omega) (by simp only [hr]; exact (by (repeat first | refine uA ?_ | (refine ⟨?_, ?_⟩; focus first | rfl | trivial | (simp [slot]; done)) | rfl | trivial | simp | exact Nat.le_trans hν0 (by simp))))
  · have := revInv_end hinv (by omega)
    subst this
    (repeat first | refine uA ?_ | (apply S.exit; exact rfl) | ((with_reducible refine And.intro ?_ ?_); focus first | omega | trivial | exact id | (intros; simp_all <;> omega)) | simp (disch := omega) only [go_sem, Nat.reduceBEq, Nat.reduceAdd, Nat.reduceLeDiff, Int.reduceToNat, Int.reducePow, ww])
    exact S.end_ (RetOK.own rfl)
theorem f_digits (n : Nat) (hn : n < 4611686018427387904) : FSpec Tryz.prog 83 [.v (.int .i64 (n : Int))] (sb (Nm.enc n)) := by
  refine FSpec.of fn_gantmake_digits ok_gantmake_digits (by exact Nat.le_of_ble_eq_true rfl) fun w O => ?_
  have h8 : (Nm.enc n).length ≤ 8 := Nm.enc_len_le (by omega)
  simp only [ir_gantmake_digits, frOf, TT, II, OA, OB, OC, MM, LL, VV, FF, MG, LG, VG, FG, sb]
  (repeat first | refine uA ?_ | (apply S.exit; exact rfl) | ((with_reducible refine And.intro ?_ ?_); focus first | omega | trivial | exact id | (intros; simp_all <;> omega)) | simp (disch := omega) only [go_sem, Nat.reduceBEq, Nat.reduceAdd, Nat.reduceLeDiff, Int.reduceToNat, Int.reducePow, ww])
  refine S.loop (X := Nat × List UInt8) (fun x => ⟨[(0, ints x.1), (3, .rv 0)], [.row 5 1 (x.2.map byteC)]⟩) (fun x => x.1 ≤ n ∧ Nm.enc x.1 ++ x.2.reverse = Nm.enc n) (fun x => x.1) (n, []) ⟨Nat.le_refl _, by simp⟩ (Ent.trans (Ent.pack 3 5 1 rfl) (by (repeat first | refine uA ?_ | (refine ⟨?_, ?_⟩; focus first | rfl | trivial | (simp [slot]; done)) | rfl | trivial | simp))) ?_
  rintro ⟨m, out⟩ ⟨hm, hinv⟩
  simp only [ints] at hm hinv ⊢
  have hol : out.length ≤ 8 := by
    have := congrArg List.length hinv
    simp only [List.length_append, List.length_reverse] at this
    omega
  (repeat first | refine uA ?_ | (apply S.exit; exact rfl) | ((with_reducible refine And.intro ?_ ?_); focus first | omega | trivial | exact id | (intros; simp_all <;> omega)) | simp (disch := omega) only [go_sem, Nat.reduceBEq, Nat.reduceAdd, Nat.reduceLeDiff, Int.reduceToNat, Int.reducePow, ww])
  (refine uJ rfl (fun hc => ?_) fun hc => ?_)
  · have he : Nm.enc m = Nm.enc (m / 256) ++ [UInt8.ofNat (m % 256)] := by
      conv => lhs; unfold Nm.enc
      rw [if_neg (by omega)]
    have hb : (UInt8.ofNat (m % 256)).toNat = m % 256 := by simp
    have h1 : IntKind.u8.wrap (Int.tmod (m : Int) 256) = (((UInt8.ofNat (m % 256)).toNat : Nat) : Int) := by
      rw [hb, show Int.tmod (m : Int) 256 = ((m % 256 : Nat) : Int) from rfl, wrap_u8_nat]
      omega
    have h2 : Int.tdiv (m : Int) 256 = ((m / 256 : Nat) : Int) := rfl
    have hap : Nm.enc (m / 256) ++ (out ++ [UInt8.ofNat (m % 256)]).reverse = Nm.enc n := by
      rw [List.reverse_append, ← hinv, he]
      simp
    generalize UInt8.ofNat (m % 256) = b at *
    (repeat first | refine uA ?_ | (apply S.exit; exact rfl) | ((with_reducible refine And.intro ?_ ?_); focus first | omega | trivial | exact id | (intros; simp_all <;> omega)) | simp (disch := omega) only [go_sem, Nat.reduceBEq, Nat.reduceAdd, Nat.reduceLeDiff, Int.reduceToNat, Int.reducePow, ww, List.length_map, h1, h2])
    refine S.next (x := (m, out)) (m / 256, out ++ [b]) ⟨by simp only; omega, hap⟩ (by simp only; omega) (by simp only [List.map_append, List.map_cons, List.map_nil, byteC]; exact (by (repeat first | refine uA ?_ | (refine ⟨?_, ?_⟩; focus first | rfl | trivial | (simp [slot]; done)) | rfl | trivial | simp)))
  · have h0 : m = 0 := by omega
    subst h0
    rw [Nm.enc_zero, List.nil_append] at hinv
    have hr := fun (E : Ctx) (hP : E.P = Tryz.prog) => h_rev hP out (by omega)
    rw [hinv] at hr
    (repeat first | refine uA ?_ | (apply S.exit; exact rfl) | ((with_reducible refine And.intro ?_ ?_); focus first | omega | trivial | exact id | (intros; simp_all <;> omega)) | simp (disch := omega) only [go_sem, Nat.reduceBEq, Nat.reduceAdd, Nat.reduceLeDiff, Int.reduceToNat, Int.reducePow, ww, bytesE_map, bs_mk] | refine CallOK.t (CallT.lift (k := 0) rfl (hr _ rfl) rfl rfl rfl) ?_)
    exact S.done (RetOK.out rfl (Imp.refl rfl) rfl)
theorem gcd_step (a b : Nat) (h : 0 < b) : Nat.gcd b (a % b) = Nat.gcd a b := by
  rw [Nat.gcd_comm b, ← Nat.gcd_rec, Nat.gcd_comm]
theorem f_gof (n d : Int) (hn : -1099511627776 ≤ n ∧ n ≤ 1099511627776) (hd : 1 ≤ d ∧ d ≤ 1099511627776) : FSpec Tryz.prog 18 [ints n, ints d] (rc (Q n d)) := by
  refine FSpec.of fn_gantmake_Of ok_gantmake_Of (by exact Nat.le_of_ble_eq_true rfl) fun w O => ?_
  obtain ⟨m, rfl⟩ : ∃ m : Nat, d = m := ⟨d.toNat, by omega⟩
  have hq : Q n m = Nm.ofQ (mkRat (Nm.sgn (decide (n < 0)) n.natAbs) m) := by
    unfold Q
    have : Nm.sgn (decide (n < 0)) n.natAbs = n := by unfold Nm.sgn; by_cases h : n < 0 <;> simp [h] <;> omega
    rw [this, Int.toNat_natCast]
  rw [hq, ← Nm.made_eq _ (by omega)]
  have hmx : (if n < -n then -n else n) = ((n.natAbs : Nat) : Int) := by split <;> omega
  have hwn : IntKind.i64.wrap (0 - n) = -n := by rw [Eng.wrap_i64 (by omega)]; omega
  have hgp : 0 < Nat.gcd n.natAbs m := Nat.gcd_pos_of_pos_right _ (by omega)
  simp only [ir_gantmake_Of, frOf, TT, II, OA, OB, OC, MM, LL, VV, FF, MG, LG, VG, FG, ints]
  (repeat first | refine uA ?_ | (apply S.exit; exact rfl) | ((with_reducible refine And.intro ?_ ?_); focus first | omega | trivial | exact id | (intros; simp_all <;> omega)) | simp (disch := omega) only [go_sem, Nat.reduceBEq, Nat.reduceAdd, Nat.reduceLeDiff, Int.reduceToNat, Int.reducePow, ww, hwn, hmx])
  refine S.loop (X := Nat × Nat) (fun x => ⟨[(0, ints n), (1, ints m), (4, .bp 0 0), (5, ints x.1), (6, ints x.2)], [.box 29 [.v (.bool false), .v (.string ⟨#[]⟩), .v (.string ⟨#[]⟩)]]⟩) (fun x => Nat.gcd x.1 x.2 = Nat.gcd n.natAbs m ∧ x.1 ≤ 1099511627776 ∧ x.2 ≤ 1099511627776) (fun x => x.2) (n.natAbs, m) ⟨rfl, by omega, by omega⟩ (by (repeat first | refine uA ?_ | (refine ⟨?_, ?_⟩; focus first | rfl | trivial | (simp [slot]; done)) | rfl | trivial | simp)) ?_
  rintro ⟨a, b⟩ ⟨hg, ha, hb⟩
  simp only [ints] at hg ha hb ⊢
  (repeat first | refine uA ?_ | (apply S.exit; exact rfl) | ((with_reducible refine And.intro ?_ ?_); focus first | omega | trivial | exact id | (intros; simp_all <;> omega)) | simp (disch := omega) only [go_sem, Nat.reduceBEq, Nat.reduceAdd, Nat.reduceLeDiff, Int.reduceToNat, Int.reducePow, ww])
  (refine uJ rfl (fun hc => ?_) fun hc => ?_)
  · have h1 : Int.tmod (a : Int) (b : Int) = ((a % b : Nat) : Int) := rfl
    have hlt : a % b < b := Nat.mod_lt _ (by omega)
    have hb0 : ¬ ((b : Int) = 0) := by omega
    (repeat first | refine uA ?_ | (apply S.exit; exact rfl) | ((with_reducible refine And.intro ?_ ?_); focus first | omega | trivial | exact id | (intros; simp_all <;> omega)) | simp (disch := omega) only [go_sem, Nat.reduceBEq, Nat.reduceAdd, Nat.reduceLeDiff, Int.reduceToNat, Int.reducePow, ww, h1, hb0])
    refine S.next (x := (a, b)) (b, a % b) ⟨by simp only; rw [gcd_step a b (by omega)]; exact hg, by simp only; omega, by simp only; omega⟩ (by simp only; omega) (by (repeat first | refine uA ?_ | (refine ⟨?_, ?_⟩; focus first | rfl | trivial | (simp [slot]; done)) | rfl | trivial | simp))
  · have hb0 : b = 0 := by omega
    subst hb0
    rw [Nat.gcd_zero_right] at hg
    subst hg
    have ha0 : ¬ (((Nat.gcd n.natAbs m : Nat) : Int) = 0) := by omega
    generalize hgg : Nat.gcd n.natAbs m = g at *
    have hdvn : g ∣ n.natAbs := by rw [← hgg]; exact Nat.gcd_dvd_left ..
    have e2 : Int.tdiv (m : Int) (g : Int) = ((m / g : Nat) : Int) := rfl
    obtain ⟨k, hk⟩ := hdvn
    have hkq : n.natAbs / g = k := by rw [hk]; exact Nat.mul_div_cancel_left _ hgp
    have e1 : Int.tdiv n (g : Int) = Nm.sgn (decide (n < 0)) k := by
      have h3 : (n : Int) = (g : Int) * Nm.sgn (decide (n < 0)) k := by
        have h4 : ((n.natAbs : Nat) : Int) = (g : Int) * (k : Int) := by rw [hk]; simp
        unfold Nm.sgn
        by_cases h : n < 0
        · simp only [h, decide_true, if_true, Int.mul_neg]; omega
        · simp only [h, decide_false, Bool.false_eq_true, if_false]; omega
      rw [show Int.tdiv n (g : Int) = Int.tdiv ((g : Int) * Nm.sgn (decide (n < 0)) k) (g : Int) from congrArg (fun z => Int.tdiv z (g : Int)) h3]
      exact Int.mul_tdiv_cancel_left _ (by omega)
    have hkb : k ≤ 1099511627776 := by
      have : k ≤ g * k := Nat.le_mul_of_pos_left k hgp
      omega
    have hmb : m / g ≤ m := Nat.div_le_self _ _
    have hs : -1099511627776 ≤ Nm.sgn (decide (n < 0)) k ∧ Nm.sgn (decide (n < 0)) k ≤ 1099511627776 := by unfold Nm.sgn; split <;> omega
    have hneg : decide (Nm.sgn (decide (n < 0)) k < 0) = (decide (n < 0) && !decide (k = 0)) := by
      unfold Nm.sgn
      by_cases h : n < 0
      · by_cases h0 : k = 0
        · subst h0; simp [h]
        · simp [h, h0]; try omega
      · simp [h]; try omega
    have hab : (if Nm.sgn (decide (n < 0)) k < -(Nm.sgn (decide (n < 0)) k) then -(Nm.sgn (decide (n < 0)) k) else Nm.sgn (decide (n < 0)) k) = ((k : Nat) : Int) := by unfold Nm.sgn; split <;> split <;> omega
    have hws : IntKind.i64.wrap (0 - Nm.sgn (decide (n < 0)) k) = -(Nm.sgn (decide (n < 0)) k) := by rw [Eng.wrap_i64 (by omega)]; omega
    have hwm : IntKind.i64.wrap ((m / g : Nat) : Int) = ((m / g : Nat) : Int) := by
      generalize m / g = z at *
      exact Eng.wrap_i64 (by omega)
    have d1 := f_digits k (by omega)
    have d2 := f_digits (m / g) (by omega)
    have hres : (if n.natAbs = 0 then Nm.zeroR else ⟨decide (n < 0), Nm.enc (n.natAbs / g), Nm.enc (m / g)⟩ : Nm.Rt) = ⟨decide (n < 0) && !decide (k = 0), Nm.enc k, Nm.enc (m / g)⟩ := by
      rw [hkq]
      by_cases h0 : n.natAbs = 0
      · have hn0 : n = 0 := by omega
        subst hn0
        have hk0 : k = 0 := by
          rcases Nat.eq_zero_or_pos k with h | h
          · exact h
          · have := Nat.mul_pos hgp h; omega
        have hgm : g = m := by rw [← hgg]; simp
        subst hk0
        have h1 : m / g = 1 := by rw [hgm]; exact Nat.div_self (by omega)
        rw [h1, Nm.enc_one, Nm.enc_zero]
        rfl
      · have hk0 : k ≠ 0 := by intro h; subst h; omega
        rw [if_neg h0]
        simp [hk0]
    rw [hres]
    rw [← hneg]
    simp only [rc, sb] at d1 d2 ⊢
    generalize Nm.sgn (decide (n < 0)) k = s at *
    (repeat first | refine uA ?_ | (apply S.exit; exact rfl) | ((with_reducible refine And.intro ?_ ?_); focus first | omega | trivial | exact id | (intros; simp_all <;> omega)) | simp (disch := omega) only [go_sem, Nat.reduceBEq, Nat.reduceAdd, Nat.reduceLeDiff, Int.reduceToNat, Int.reducePow, ww, ha0, e1, e2, hws, hab, hwm] | (refine uB d1 ?_ ?_; exact rfl) | (refine uB d2 ?_ ?_; exact rfl))
    (refine S.done ?_; simp only [retP, loadP, go_sem, Nat.reduceBEq, Nat.reduceAdd, Nat.reduceLeDiff, Int.reduceToNat, Int.reducePow]; (repeat (refine ⟨?_, ?_⟩; focus first | trivial | omega | simp)); exact RetOK.out rfl (Imp.refl rfl) rfl)
end Go.Proofs.YtfadociodcmhfaaGreatDoor
namespace Go.Proofs.YtfadociodcmhfaaGreatDoor
set_option linter.all false
open Go Go.RowKit Eng
set_option maxRecDepth 10000
set_option maxHeartbeats 8000000
theorem f_at (x y : Int) (hx : -1000000 ≤ x ∧ x ≤ 1000000) (hy : -1000000 ≤ y ∧ y ≤ 1000000) : FSpec Tryz.prog 149 [ints x, ints y] (atV x y).c := by
  refine FSpec.of fn_gantmake_at ok_gantmake_at (by exact Nat.le_of_ble_eq_true rfl) fun w O => ?_
  have h1 := f_gof x 4 (by omega) (by omega)
  have h2 := f_gof y 4 (by omega) (by omega)
  unfold atV
  generalize Q x 4 = qx at *
  generalize Q y 4 = qy at *
  simp only [ir_gantmake_at, frOf, TT, II, OA, OB, OC, MM, LL, VV, FF, MG, LG, VG, FG]
  simp only [rc, sb, ints, Vt.c, Vt.enc] at *
  (repeat first | refine uA ?_ | (apply S.exit; exact rfl) | ((with_reducible refine And.intro ?_ ?_); focus first | omega | trivial | exact id | (intros; simp_all <;> omega)) | simp (disch := omega) only [go_sem, Nat.reduceBEq, Nat.reduceAdd, Nat.reduceLeDiff, Int.reduceToNat, Int.reducePow, ww] | (refine uB h1 ?_ ?_; exact rfl) | (refine uB h2 ?_ ?_; exact rfl))
  (refine S.done ?_; simp only [retP, loadP, go_sem, Nat.reduceBEq, Nat.reduceAdd, Nat.reduceLeDiff, Int.reduceToNat, Int.reducePow]; (repeat (refine ⟨?_, ?_⟩; focus first | trivial | omega | simp)); exact RetOK.out rfl (Imp.refl rfl) rfl)
theorem f_rect (x y u v : Int) (hx : -100000 ≤ x ∧ x ≤ 100000) (hy : -100000 ≤ y ∧ y ≤ 100000) (hu : -100000 ≤ u ∧ u ≤ 100000) (hv : -100000 ≤ v ∧ v ≤ 100000) : FSpec Tryz.prog 147 [ints x, ints y, ints u, ints v] (vts (rectV x y u v)) := by
  refine FSpec.of fn_gantmake_rectangle ok_gantmake_rectangle (by exact Nat.le_of_ble_eq_true rfl) fun w O => ?_
  have h1 := f_at x y (by omega) (by omega)
  have h2 := f_at u y (by omega) (by omega)
  have h3 := f_at u v (by omega) (by omega)
  have h4 := f_at x v (by omega) (by omega)
  unfold rectV
  generalize atV x y = p1 at *
  generalize atV u y = p2 at *
  generalize atV u v = p3 at *
  generalize atV x v = p4 at *
  simp only [ir_gantmake_rectangle, frOf, TT, II, OA, OB, OC, MM, LL, VV, FF, MG, LG, VG, FG]
  simp only [vts, Vt.c, Vt.enc, sb, ints] at *
  (repeat first | refine uA ?_ | (apply S.exit; exact rfl) | ((with_reducible refine And.intro ?_ ?_); focus first | omega | trivial | exact id | (intros; simp_all <;> omega)) | simp (disch := omega) only [go_sem, Nat.reduceBEq, Nat.reduceAdd, Nat.reduceLeDiff, Int.reduceToNat, Int.reducePow, ww] | (refine uB h1 ?_ ?_; exact rfl) | (refine uB h2 ?_ ?_; exact rfl) | (refine uB h3 ?_ ?_; exact rfl) | (refine uB h4 ?_ ?_; exact rfl))
  exact S.done (RetOK.out rfl (Imp.frz rfl rfl rfl) rfl)
theorem polyS_eq (l : List Int) : polyS l = if nx (l.drop 2) 4 = 1 then (polyV (1 + nx l 6) (1 + nx (l.drop 1) 6) 1 (nx (l.drop 3) (2 * (1 + nx l 6) + 1)), l.drop 4) else (polyV (1 + nx l 6) (1 + nx (l.drop 1) 6) (nx (l.drop 2) 4) 0, l.drop 3) := by
  unfold polyS
  by_cases h : nx (l.drop 2) 4 = 1
  · simp only [h, if_true]
  · simp only [if_neg h]
theorem h_poly {E : Ctx} (hP : E.P = Tryz.prog) (l : List Int) :
    CallT E [.box 200 [raws l]] 148 [.bp 0 0] (vts (polyS l).1) [.box 200 [raws (polyS l).2]] [] := by
  obtain ⟨P, eff', N, w0, own0, av0, nu0, pk0⟩ := E
  simp only at hP
  subst hP
  refine CallT.of (eff := eff) fn_gantmake_poly ok_gantmake_poly (by exact Nat.le_of_ble_eq_true rfl) fun w own av ν hν => ?_
  have hν0 : ν.length ≤ 1 := by rw [hν]; exact Nat.le_refl _
  have n1 := fun (E : Ctx) (hP : E.P = Tryz.prog) => h_next hP l 6 (by decide)
  have n2 := fun (E : Ctx) (hP : E.P = Tryz.prog) => h_next hP (l.drop 1) 6 (by decide)
  have n3 := fun (E : Ctx) (hP : E.P = Tryz.prog) => h_next hP (l.drop 2) 4 (by decide)
  have b1 := nx_nonneg l (n := 6) (by decide)
  have b2 := nx_lt l (n := 6) (by decide)
  have b3 := nx_nonneg (l.drop 1) (n := 6) (by decide)
  have b4 := nx_lt (l.drop 1) (n := 6) (by decide)
  have b5 := nx_nonneg (l.drop 2) (n := 4) (by decide)
  have b6 := nx_lt (l.drop 2) (n := 4) (by decide)
  rw [polyS_eq]
  generalize hw : nx l 6 = w' at *
  generalize hh : nx (l.drop 1) 6 = h' at *
  have n4 := fun (E : Ctx) (hP : E.P = Tryz.prog) => h_next hP (l.drop 3) (2 * (1 + w') + 1) (by omega)
  have b7 := nx_nonneg (l.drop 3) (n := 2 * (1 + w') + 1) (by omega)
  have b8 := nx_lt (l.drop 3) (n := 2 * (1 + w') + 1) (by omega)
  generalize hk : nx (l.drop 2) 4 = k at *
  generalize hs : nx (l.drop 3) (2 * (1 + w') + 1) = s at *
  rw [List.drop_drop] at n2 n3 n4
  generalize hu1 : 1 + w' = u at *
  generalize hv1 : 1 + h' = v at *
  have ru : IntKind.i64.wrap (0 - u) = -u := by rw [Eng.wrap_i64 (by omega)]; omega
  have rv : IntKind.i64.wrap (0 - v) = -v := by rw [Eng.wrap_i64 (by omega)]; omega
  simp only [ir_gantmake_poly, frOf, TT, II, OA, OB, OC, MM, LL, VV, FF, MG, LG, VG, FG]
  simp only [raws, ints] at n1 n2 n3 n4 ⊢
  (repeat first | refine uA ?_ | (apply S.exit; exact rfl) | ((with_reducible refine And.intro ?_ ?_); focus first | omega | trivial | exact id | (intros; simp_all <;> omega)) | simp (disch := omega) only [go_sem, Nat.reduceBEq, Nat.reduceAdd, Nat.reduceLeDiff, Int.reduceToNat, Int.reducePow, ww, hu1, hv1] | refine CallOK.t (CallT.lift (k := 0) rfl (n1 _ rfl) rfl rfl rfl) ?_ | refine CallOK.t (CallT.lift (k := 0) rfl (n2 _ rfl) rfl rfl rfl) ?_)
  (repeat first | refine uA ?_ | (apply S.exit; exact rfl) | ((with_reducible refine And.intro ?_ ?_); focus first | omega | trivial | exact id | (intros; simp_all <;> omega)) | simp (disch := omega) only [go_sem, Nat.reduceBEq, Nat.reduceAdd, Nat.reduceLeDiff, Int.reduceToNat, Int.reducePow, ww] | refine CallOK.t (CallT.lift (k := 0) rfl (n3 _ rfl) rfl rfl rfl) ?_)
  by_cases k0 : k = 0
  · subst k0
    rw [if_neg (by decide), show polyV u v 0 0 = [atV (-u) (-v), atV u (-v), atV u v, atV (-u) v] from rfl]
    have h1 := f_at (-u) (-v) (by omega) (by omega)
    have h2 := f_at (u) (-v) (by omega) (by omega)
    have h3 := f_at (u) (v) (by omega) (by omega)
    have h4 := f_at (-u) (v) (by omega) (by omega)
    generalize hq1 : atV (-u) (-v) = p1 at *
    generalize hq2 : atV (u) (-v) = p2 at *
    generalize hq3 : atV (u) (v) = p3 at *
    generalize hq4 : atV (-u) (v) = p4 at *
    simp only [vts, Vt.c, Vt.enc, sb, ints] at h1 h2 h3 h4 ⊢
    refine S.cond rfl (fun hc => ?_) (fun hc => by simp at hc)
    (repeat first | refine uA ?_ | (apply S.exit; exact rfl) | ((with_reducible refine And.intro ?_ ?_); focus first | omega | trivial | exact id | (intros; simp_all <;> omega)) | simp (disch := omega) only [go_sem, Nat.reduceBEq, Nat.reduceAdd, Nat.reduceLeDiff, Int.reduceToNat, Int.reducePow, ww, ru, rv] | (refine uB h1 ?_ ?_; exact rfl) | (refine uB h2 ?_ ?_; exact rfl) | (refine uB h3 ?_ ?_; exact rfl) | (refine uB h4 ?_ ?_; exact rfl))
    (refine S.done ?_; simp only [retP, loadP, go_sem, Nat.reduceBEq, Nat.reduceAdd, Nat.reduceLeDiff, Int.reduceToNat, Int.reducePow]; (repeat (refine ⟨?_, ?_⟩; focus first | trivial | omega | simp)); exact RetOK.ownW (Imp.frz rfl rfl rfl) (by (repeat first | refine uA ?_ | (refine ⟨?_, ?_⟩; focus first | rfl | trivial | (simp [slot]; done)) | rfl | trivial | simp)) (Nat.le_trans hν0 (by simp)))
  refine S.cond rfl (fun hc => by simp at hc; exact absurd hc k0) (fun hc => ?_)
  (repeat first | refine uA ?_ | (apply S.exit; exact rfl) | ((with_reducible refine And.intro ?_ ?_); focus first | omega | trivial | exact id | (intros; simp_all <;> omega)) | simp (disch := omega) only [go_sem, Nat.reduceBEq, Nat.reduceAdd, Nat.reduceLeDiff, Int.reduceToNat, Int.reducePow, ww])
  by_cases k1 : k = 1
  · subst k1
    rw [if_pos rfl, show polyV u v 1 s = [atV (-u) (-v), atV u (-v), atV (s - u) v] from rfl]
    have h1 := f_at (-u) (-v) (by omega) (by omega)
    have h2 := f_at (u) (-v) (by omega) (by omega)
    have h3 := f_at (s - u) (v) (by omega) (by omega)
    generalize hq1 : atV (-u) (-v) = p1 at *
    generalize hq2 : atV (u) (-v) = p2 at *
    generalize hq3 : atV (s - u) (v) = p3 at *
    simp only [vts, Vt.c, Vt.enc, sb, ints] at h1 h2 h3 ⊢
    refine S.cond rfl (fun hc => ?_) (fun hc => by simp at hc)
    (repeat first | refine uA ?_ | (apply S.exit; exact rfl) | ((with_reducible refine And.intro ?_ ?_); focus first | omega | trivial | exact id | (intros; simp_all <;> omega)) | simp (disch := omega) only [go_sem, Nat.reduceBEq, Nat.reduceAdd, Nat.reduceLeDiff, Int.reduceToNat, Int.reducePow, ww, ru, rv] | refine CallOK.t (CallT.lift (k := 0) rfl (n4 _ rfl) rfl rfl rfl) ?_ | (refine uB h1 ?_ ?_; exact rfl) | (refine uB h2 ?_ ?_; exact rfl) | (refine uB h3 ?_ ?_; exact rfl))
    (refine S.done ?_; simp only [retP, loadP, go_sem, Nat.reduceBEq, Nat.reduceAdd, Nat.reduceLeDiff, Int.reduceToNat, Int.reducePow]; (repeat (refine ⟨?_, ?_⟩; focus first | trivial | omega | simp)); exact RetOK.ownW (Imp.frz rfl rfl rfl) (by (repeat first | refine uA ?_ | (refine ⟨?_, ?_⟩; focus first | rfl | trivial | (simp [slot]; done)) | rfl | trivial | simp)) (Nat.le_trans hν0 (by simp)))
  rw [if_neg k1]
  refine S.cond rfl (fun hc => by simp at hc; exact absurd hc k1) (fun hc => ?_)
  (repeat first | refine uA ?_ | (apply S.exit; exact rfl) | ((with_reducible refine And.intro ?_ ?_); focus first | omega | trivial | exact id | (intros; simp_all <;> omega)) | simp (disch := omega) only [go_sem, Nat.reduceBEq, Nat.reduceAdd, Nat.reduceLeDiff, Int.reduceToNat, Int.reducePow, ww])
  by_cases k2 : k = 2
  · subst k2
    rw [show polyV u v 2 0 = [atV (-u - 1) (-v - 1), atV u (-v - 1), atV (u + 1) (-v), atV (u + 1) v, atV (-u - 1) v] from rfl]
    have h1 := f_at (-u - 1) (-v - 1) (by omega) (by omega)
    have h2 := f_at (u) (-v - 1) (by omega) (by omega)
    have h3 := f_at (u + 1) (-v) (by omega) (by omega)
    have h4 := f_at (u + 1) (v) (by omega) (by omega)
    have h5 := f_at (-u - 1) (v) (by omega) (by omega)
    generalize hq1 : atV (-u - 1) (-v - 1) = p1 at *
    generalize hq2 : atV (u) (-v - 1) = p2 at *
    generalize hq3 : atV (u + 1) (-v) = p3 at *
    generalize hq4 : atV (u + 1) (v) = p4 at *
    generalize hq5 : atV (-u - 1) (v) = p5 at *
    simp only [vts, Vt.c, Vt.enc, sb, ints] at h1 h2 h3 h4 h5 ⊢
    refine S.cond rfl (fun hc => ?_) (fun hc => by simp at hc)
    (repeat first | refine uA ?_ | (apply S.exit; exact rfl) | ((with_reducible refine And.intro ?_ ?_); focus first | omega | trivial | exact id | (intros; simp_all <;> omega)) | simp (disch := omega) only [go_sem, Nat.reduceBEq, Nat.reduceAdd, Nat.reduceLeDiff, Int.reduceToNat, Int.reducePow, ww, ru, rv] | (refine uB h1 ?_ ?_; exact rfl) | (refine uB h2 ?_ ?_; exact rfl) | (refine uB h3 ?_ ?_; exact rfl) | (refine uB h4 ?_ ?_; exact rfl) | (refine uB h5 ?_ ?_; exact rfl))
    (refine S.done ?_; simp only [retP, loadP, go_sem, Nat.reduceBEq, Nat.reduceAdd, Nat.reduceLeDiff, Int.reduceToNat, Int.reducePow]; (repeat (refine ⟨?_, ?_⟩; focus first | trivial | omega | simp)); exact RetOK.ownW (Imp.frz rfl rfl rfl) (by (repeat first | refine uA ?_ | (refine ⟨?_, ?_⟩; focus first | rfl | trivial | (simp [slot]; done)) | rfl | trivial | simp)) (Nat.le_trans hν0 (by simp)))
  · rw [show polyV u v k 0 = [atV (-u) 0, atV 0 (-v), atV u 0, atV 0 v] by unfold polyV; rw [if_neg k0, if_neg k1, if_neg k2]]
    have h1 := f_at (-u) (0) (by omega) (by omega)
    have h2 := f_at (0) (-v) (by omega) (by omega)
    have h3 := f_at (u) (0) (by omega) (by omega)
    have h4 := f_at (0) (v) (by omega) (by omega)
    generalize hq1 : atV (-u) (0) = p1 at *
    generalize hq2 : atV (0) (-v) = p2 at *
    generalize hq3 : atV (u) (0) = p3 at *
    generalize hq4 : atV (0) (v) = p4 at *
    simp only [vts, Vt.c, Vt.enc, sb, ints] at h1 h2 h3 h4 ⊢
    refine S.cond rfl (fun hc => by simp at hc; exact absurd hc k2) (fun hc => ?_)
    (repeat first | refine uA ?_ | (apply S.exit; exact rfl) | ((with_reducible refine And.intro ?_ ?_); focus first | omega | trivial | exact id | (intros; simp_all <;> omega)) | simp (disch := omega) only [go_sem, Nat.reduceBEq, Nat.reduceAdd, Nat.reduceLeDiff, Int.reduceToNat, Int.reducePow, ww, ru, rv] | (refine uB h1 ?_ ?_; exact rfl) | (refine uB h2 ?_ ?_; exact rfl) | (refine uB h3 ?_ ?_; exact rfl) | (refine uB h4 ?_ ?_; exact rfl))
    (refine S.done ?_; simp only [retP, loadP, go_sem, Nat.reduceBEq, Nat.reduceAdd, Nat.reduceLeDiff, Int.reduceToNat, Int.reducePow]; (repeat (refine ⟨?_, ?_⟩; focus first | trivial | omega | simp)); exact RetOK.ownW (Imp.frz rfl rfl rfl) (by (repeat first | refine uA ?_ | (refine ⟨?_, ?_⟩; focus first | rfl | trivial | (simp [slot]; done)) | rfl | trivial | simp)) (Nat.le_trans hν0 (by simp)))
end Go.Proofs.YtfadociodcmhfaaGreatDoor
namespace Go.Proofs.YtfadociodcmhfaaGreatDoor
set_option linter.all false
open Go Go.RowKit Eng
set_option maxRecDepth 100000
set_option maxHeartbeats 16000000
theorem arm_name (n : Nat) (h : n ≤ 3) : ([[C.v (.string ⟨#[111, 110, 101]⟩)], [C.v (.string ⟨#[116, 119, 111]⟩)], [C.v (.string ⟨#[116, 104, 114, 101, 101]⟩)], [C.v (.string ⟨#[102, 111, 117, 114]⟩)]] : List (List C))[n]? = some [C.v (.string (bs (armN n)))] := by
  match n, h with
  | 0, _ => rfl
  | 1, _ => rfl
  | 2, _ => rfl
  | 3, _ => rfl
theorem turn_at (k : Int) (h0 : 0 ≤ k) (h1 : k < 4) : ([[C.v (.int .i64 0)], [C.v (.int .i64 1)], [C.v (.int .i64 (-1))], [C.v (.int .i64 1)]] : List (List C))[k.toNat]? = some [C.v (.int .i64 (turnN k))] := by
  have : k = 0 ∨ k = 1 ∨ k = 2 ∨ k = 3 := by omega
  rcases this with rfl | rfl | rfl | rfl <;> rfl
theorem turnN_rng (k : Int) : -1 ≤ turnN k ∧ turnN k ≤ 1 := by unfold turnN; split; omega; split <;> omega
theorem h_arm {E : Ctx} (hP : E.P = Tryz.prog) (l : List Int) (n : Nat) (hn : n ≤ 3) :
    CallT E [.box 200 [raws l]] 146 [.bp 0 0, .v (.int .i64 (n : Int))] (armV l n).c [.box 200 [raws (armR l)]] [] := by
  obtain ⟨P, eff', N, w0, own0, av0, nu0, pk0⟩ := E
  simp only at hP
  subst hP
  refine CallT.of (eff := eff) fn_gantmake_arm ok_gantmake_arm (by exact Nat.le_of_ble_eq_true rfl) fun w own av ν hν => ?_
  have hν0 : ν.length ≤ 1 := by rw [hν]; exact Nat.le_refl _
  have hnm := arm_name n hn
  have h1 := f_at (40 * (n : Int)) 0 (by omega) (by omega)
  have k1 := fun (E : Ctx) (hP : E.P = Tryz.prog) => h_next hP l 4 (by decide)
  have k2 := fun (E : Ctx) (hP : E.P = Tryz.prog) => h_next hP (l.drop 1) 3 (by decide)
  have k3 := fun (E : Ctx) (hP : E.P = Tryz.prog) => h_next hP (l.drop 2) 3 (by decide)
  have a1 := nx_nonneg l (n := 4) (by decide)
  have a2 := nx_lt l (n := 4) (by decide)
  have a3 := nx_nonneg (l.drop 1) (n := 3) (by decide)
  have a4 := nx_lt (l.drop 1) (n := 3) (by decide)
  have a5 := nx_nonneg (l.drop 2) (n := 3) (by decide)
  have a6 := nx_lt (l.drop 2) (n := 3) (by decide)
  have htn := turn_at (nx l 4) a1 a2
  have htr := turnN_rng (nx l 4)
  have h2 := f_gof (turnN (nx l 4)) (1 + nx (l.drop 1) 3) (by omega) (by omega)
  rw [List.drop_drop] at k2 k3
  have hc : ((linkC l : Nat) : Int) = 1 + nx (l.drop 2) 3 := by unfold linkC; omega
  have hc3 : linkC l ≤ 3 := by omega
  have hR : armR l = (l.drop 3).drop (6 * linkC l) := by unfold armR; rw [List.drop_drop]
  unfold armV
  rw [hR]
  generalize linkC l = c at *
  generalize l.drop 3 = l0 at *
  unfold atV at h1
  generalize Q (40 * (n : Int)) 4 = q1 at *
  generalize Q 0 4 = q2 at *
  generalize turnN (nx l 4) = tn at *
  generalize Q tn (1 + nx (l.drop 1) 3) = q3 at *
  generalize nx l 4 = x1 at *
  generalize nx (l.drop 1) 3 = x2 at *
  generalize nx (l.drop 2) 3 = x3 at *
  generalize armN n = nm at *
  simp only [ir_gantmake_arm, frOf, TT, II, OA, OB, OC, MM, LL, VV, FF, MG, LG, VG, FG]
  simp only [Am.c, Am.enc, Vt.c, Vt.enc, rc, raws, sb, ints, lks] at h1 h2 k1 k2 k3 ⊢
  (repeat first | refine uA ?_ | (apply S.exit; exact rfl) | ((with_reducible refine And.intro ?_ ?_); focus first | omega | trivial | exact id | (intros; simp_all <;> omega)) | simp (disch := omega) only [go_sem, Nat.reduceBEq, Nat.reduceAdd, Nat.reduceLeDiff, Int.reduceToNat, Int.reducePow, ww, hnm, htn, Int.toNat_natCast] | refine CallOK.t (CallT.lift (k := 0) rfl (k1 _ rfl) rfl rfl rfl) ?_ | refine CallOK.t (CallT.lift (k := 0) rfl (k2 _ rfl) rfl rfl rfl) ?_ | (refine uB h1 ?_ ?_; exact rfl) | (refine uB h2 ?_ ?_; exact rfl))
  (repeat first | refine uA ?_ | (apply S.exit; exact rfl) | ((with_reducible refine And.intro ?_ ?_); focus first | omega | trivial | exact id | (intros; simp_all <;> omega)) | simp (disch := omega) only [go_sem, Nat.reduceBEq, Nat.reduceAdd, Nat.reduceLeDiff, Int.reduceToNat, Int.reducePow, ww] | refine CallOK.t (CallT.lift (k := 0) rfl (k3 _ rfl) rfl rfl rfl) ?_)
  rw [← hc]
  refine S.loop (X := Nat × List Lk × List Int) (fun x => ⟨[(0, .bp 0 0), (4, .bp 1 0), (5, .bp 3 0), (30, ints c), (31, ints x.1)], [.box 200 [raws x.2.2], .box 51 [.v (.string ⟨#[]⟩), .v (.bool false), .v (.string ⟨#[]⟩), .v (.string ⟨#[]⟩), .v (.bool false), .v (.string ⟨#[]⟩), .v (.string ⟨#[]⟩), .v (.bool false), .v (.bool false), .v (.string ⟨#[]⟩), .v (.string ⟨#[]⟩), .v (.slice none 0 0)], .gone, .box 51 [.v (.string (bs nm)), .v (.bool q1.neg), .v (.string (bs q1.num)), .v (.string (bs q1.den)), .v (.bool q2.neg), .v (.string (bs q2.num)), .v (.string (bs q2.den)), .v (.bool false), .v (.bool q3.neg), .v (.string (bs q3.num)), .v (.string (bs q3.den)), .rv 4], .row 53 16 (x.2.1.map Lk.enc)]⟩)
    (fun x => x.1 ≤ c ∧ x.2.1.length = x.1 ∧ x.2.1 ++ linksS (c - x.1) x.2.2 = linksS c l0 ∧ x.2.2.drop (6 * (c - x.1)) = l0.drop (6 * c)) (fun x => c - x.1) (0, [], l0) ⟨Nat.zero_le _, rfl, rfl, rfl⟩ (Ent.trans (Ent.packB 3 11 53 16 rfl rfl rfl) (by (repeat first | refine uA ?_ | (refine ⟨?_, ?_⟩; focus first | rfl | trivial | (simp [slot]; done)) | rfl | trivial | simp | exact Nat.le_trans hν0 (by simp)))) ?_
  rintro ⟨i, ls, m⟩ ⟨hi, hls, hL, hM⟩
  simp only [ints, raws] at hi hls hL hM ⊢
  (repeat first | refine uA ?_ | (apply S.exit; exact rfl) | ((with_reducible refine And.intro ?_ ?_); focus first | omega | trivial | exact id | (intros; simp_all <;> omega)) | simp (disch := omega) only [go_sem, Nat.reduceBEq, Nat.reduceAdd, Nat.reduceLeDiff, Int.reduceToNat, Int.reducePow, ww])
  (refine uJ rfl (fun hc => ?_) fun hc => ?_)
  · have hi' : c - i = (c - i - 1) + 1 := by omega
    have n0 := fun (E : Ctx) (hP : E.P = Tryz.prog) => h_next hP (m.drop 0) 4 (by decide)
    have a0 := nx_nonneg (m.drop 0) (n := 4) (by decide)
    have b0 := nx_lt (m.drop 0) (n := 4) (by decide)
    have n1 := fun (E : Ctx) (hP : E.P = Tryz.prog) => h_next hP (m.drop 1) 6 (by decide)
    have a1 := nx_nonneg (m.drop 1) (n := 6) (by decide)
    have b1 := nx_lt (m.drop 1) (n := 6) (by decide)
    have n2 := fun (E : Ctx) (hP : E.P = Tryz.prog) => h_next hP (m.drop 2) 6 (by decide)
    have a2 := nx_nonneg (m.drop 2) (n := 6) (by decide)
    have b2 := nx_lt (m.drop 2) (n := 6) (by decide)
    have n3 := fun (E : Ctx) (hP : E.P = Tryz.prog) => h_next hP (m.drop 3) 8 (by decide)
    have a3 := nx_nonneg (m.drop 3) (n := 8) (by decide)
    have b3 := nx_lt (m.drop 3) (n := 8) (by decide)
    have n4 := fun (E : Ctx) (hP : E.P = Tryz.prog) => h_next hP (m.drop 4) 20 (by decide)
    have a4 := nx_nonneg (m.drop 4) (n := 20) (by decide)
    have b4 := nx_lt (m.drop 4) (n := 20) (by decide)
    have n5 := fun (E : Ctx) (hP : E.P = Tryz.prog) => h_next hP (m.drop 5) 3 (by decide)
    have a5 := nx_nonneg (m.drop 5) (n := 3) (by decide)
    have b5 := nx_lt (m.drop 5) (n := 3) (by decide)
    rw [hi', linksS] at hL
    have hM2 : (m.drop 6).drop (6 * (c - (i + 1))) = l0.drop (6 * c) := by rw [List.drop_drop, ← hM]; congr 1; omega
    rw [show c - i - 1 = c - (i + 1) by omega] at hL
    simp only [List.drop_drop, List.drop_zero] at n0 n1 n2 n3 n4 n5 a0 b0
    unfold linkS linkV at hL
    have o1 := f_gof (4 + 2 * nx m 4) 4 (by omega) (by omega)
    have o2 := f_gof (-1 - nx (m.drop 1) 6) 3 (by omega) (by omega)
    have o3 := f_gof (1 + nx (m.drop 2) 6) 3 (by omega) (by omega)
    have o4 := f_gof 1 (4 + nx (m.drop 3) 8) (by omega) (by omega)
    have o5 := f_gof 1 (10 + nx (m.drop 4) 20) (by omega) (by omega)
    have o6 := f_rect (-1) (-1) (4 + 2 * nx m 4 + 1) 1 (by omega) (by omega) (by omega) (by omega)
    have o7 := f_at (-1) (-1) (by omega) (by omega)
    have o8 := f_at (4 + 2 * nx m 4 + 1) 0 (by omega) (by omega)
    have o9 := f_at (-1) 1 (by omega) (by omega)
    generalize Q (4 + 2 * nx m 4) 4 = p1 at *
    generalize Q (-1 - nx (m.drop 1) 6) 3 = p2 at *
    generalize Q (1 + nx (m.drop 2) 6) 3 = p3 at *
    generalize Q 1 (4 + nx (m.drop 3) 8) = p4 at *
    generalize Q 1 (10 + nx (m.drop 4) 20) = p5 at *
    generalize rectV (-1) (-1) (4 + 2 * nx m 4 + 1) 1 = r6 at *
    generalize atV (-1) (-1) = v7 at *
    generalize atV (4 + 2 * nx m 4 + 1) 0 = v8 at *
    generalize atV (-1) 1 = v9 at *
    generalize nx m 4 = y0 at *
    generalize nx (m.drop 1) 6 = y1 at *
    generalize nx (m.drop 2) 6 = y2 at *
    generalize nx (m.drop 3) 8 = y3 at *
    generalize nx (m.drop 4) 20 = y4 at *
    generalize nx (m.drop 5) 3 = y5 at *
    simp only [raws, ints, rc, sb, vts, Vt.c, Vt.enc] at n0 n1 n2 n3 n4 n5 o1 o2 o3 o4 o5 o6 o7 o8 o9
    (repeat first | refine uA ?_ | (apply S.exit; exact rfl) | ((with_reducible refine And.intro ?_ ?_); focus first | omega | trivial | exact id | (intros; simp_all <;> omega)) | simp (disch := omega) only [go_sem, Nat.reduceBEq, Nat.reduceAdd, Nat.reduceLeDiff, Int.reduceToNat, Int.reducePow, ww] | refine CallOK.t (CallT.lift (k := 0) rfl (n0 _ rfl) rfl rfl rfl) ?_ | refine CallOK.t (CallT.lift (k := 0) rfl (n1 _ rfl) rfl rfl rfl) ?_ | refine CallOK.t (CallT.lift (k := 0) rfl (n2 _ rfl) rfl rfl rfl) ?_ | refine CallOK.t (CallT.lift (k := 0) rfl (n3 _ rfl) rfl rfl rfl) ?_ | refine CallOK.t (CallT.lift (k := 0) rfl (n4 _ rfl) rfl rfl rfl) ?_ | refine CallOK.t (CallT.lift (k := 0) rfl (n5 _ rfl) rfl rfl rfl) ?_ | (refine uB o1 ?_ ?_; exact rfl) | (refine uB o2 ?_ ?_; exact rfl) | (refine uB o3 ?_ ?_; exact rfl) | (refine uB o4 ?_ ?_; exact rfl) | (refine uB o5 ?_ ?_; exact rfl) | (refine uB o6 ?_ ?_; exact rfl))
    refine S.join (Y := List Vt) (fun sh => ⟨[(0, .bp 0 0), (4, .bp 1 0), (5, .bp 3 0), (7, .bp 5 0), (30, ints c), (31, ints i)], [.box 200 [raws (m.drop 6)], .box 51 [.v (.string ⟨#[]⟩), .v (.bool false), .v (.string ⟨#[]⟩), .v (.string ⟨#[]⟩), .v (.bool false), .v (.string ⟨#[]⟩), .v (.string ⟨#[]⟩), .v (.bool false), .v (.bool false), .v (.string ⟨#[]⟩), .v (.string ⟨#[]⟩), .v (.slice none 0 0)], .gone, .box 51 [.v (.string (bs nm)), .v (.bool q1.neg), .v (.string (bs q1.num)), .v (.string (bs q1.den)), .v (.bool q2.neg), .v (.string (bs q2.num)), .v (.string (bs q2.den)), .v (.bool false), .v (.bool q3.neg), .v (.string (bs q3.num)), .v (.string (bs q3.den)), .rv 4], .row 53 16 (ls.map Lk.enc), .box 53 (Lk.enc ⟨p1, p2, p3, p4, p5, sh⟩)]⟩) (fun sh => sh = if y5 = 2 then [v7, v8, v9] else r6) ?_ ?_
    · refine S.cond rfl (fun hc => ?_) (fun hc => ?_)
      · (repeat first | refine uA ?_ | (apply S.exit; exact rfl) | ((with_reducible refine And.intro ?_ ?_); focus first | omega | trivial | exact id | (intros; simp_all <;> omega)) | simp (disch := omega) only [go_sem, Nat.reduceBEq, Nat.reduceAdd, Nat.reduceLeDiff, Int.reduceToNat, Int.reducePow, ww] | (refine uB o7 ?_ ?_; exact rfl) | (refine uB o8 ?_ ?_; exact rfl) | (refine uB o9 ?_ ?_; exact rfl))
        exact S.met [v7, v8, v9] (by simp at hc; rw [if_pos hc]) (Ent.mk _ _ (by (repeat' (first | exact frOK.nil | exact Imp.junk | exact Imp.refl rfl | exact Imp.eq (by simp [slot]; done) rfl | refine frOK.cons ?_ ?_))) (by (repeat' (first | exact rsOK.nil | exact RI.gone _ | exact RI.row _ _ _ _ rfl | exact RI.map _ _ _ rfl | exact RI.box _ _ _ (ImpL.refl rfl) | (refine RI.box _ _ _ ?_; (repeat' (first | exact ImpL.nil | exact Imp.refl rfl | exact Imp.frz rfl rfl rfl | exact Imp.nilsl | refine ImpL.cons ?_ ?_))) | refine rsOK.cons ?_ ?_))) (Nat.le_trans hν0 (by simp)))
      · (repeat first | refine uA ?_ | (apply S.exit; exact rfl) | ((with_reducible refine And.intro ?_ ?_); focus first | omega | trivial | exact id | (intros; simp_all <;> omega)) | simp (disch := omega) only [go_sem, Nat.reduceBEq, Nat.reduceAdd, Nat.reduceLeDiff, Int.reduceToNat, Int.reducePow, ww])
        exact S.met r6 (by simp at hc; rw [if_neg hc]) (by (repeat first | refine uA ?_ | (refine ⟨?_, ?_⟩; focus first | rfl | trivial | (simp [slot]; done)) | rfl | trivial | simp | exact Nat.le_trans hν0 (by simp)))
    rintro sh hsh
    rw [← hsh] at hL
    simp only [raws, ints, Lk.enc, vts]
    (repeat first | refine uA ?_ | (apply S.exit; exact rfl) | ((with_reducible refine And.intro ?_ ?_); focus first | omega | trivial | exact id | (intros; simp_all <;> omega)) | simp (disch := omega) only [go_sem, Nat.reduceBEq, Nat.reduceAdd, Nat.reduceLeDiff, Int.reduceToNat, Int.reducePow, ww, List.length_map, hls])
    refine S.next (x := (i, ls, m)) (i + 1, ls ++ [⟨p1, p2, p3, p4, p5, sh⟩], m.drop 6) ⟨by simp only; omega, by simp [hls], by simp only; rw [List.append_assoc]; exact hL, by simp only; exact hM2⟩ (by simp only; omega) (by simp only [List.map_append, List.map_cons, List.map_nil]; exact (by (repeat first | refine uA ?_ | (refine ⟨?_, ?_⟩; focus first | rfl | trivial | (simp [slot]; done)) | rfl | trivial | simp | exact Nat.le_trans hν0 (by simp))))
  · have hi' : i = c := by omega
    subst hi'
    rw [Nat.sub_self, linksS, List.append_nil] at hL
    rw [Nat.sub_self, Nat.mul_zero, List.drop_zero] at hM
    subst hL
    subst hM
    (repeat first | refine uA ?_ | (apply S.exit; exact rfl) | ((with_reducible refine And.intro ?_ ?_); focus first | omega | trivial | exact id | (intros; simp_all <;> omega)) | simp (disch := omega) only [go_sem, Nat.reduceBEq, Nat.reduceAdd, Nat.reduceLeDiff, Int.reduceToNat, Int.reducePow, ww])
    (refine S.done ?_; simp only [retP, loadP, go_sem, Nat.reduceBEq, Nat.reduceAdd, Nat.reduceLeDiff, Int.reduceToNat, Int.reducePow]; (repeat (refine ⟨?_, ?_⟩; focus first | trivial | omega | simp)); exact RetOK.ownW (Imp.agg (by (repeat' (first | exact ImpL.nil | exact Imp.refl rfl | exact Imp.frz rfl rfl rfl | exact Imp.nilsl | refine ImpL.cons ?_ ?_)))) (by (repeat first | refine uA ?_ | (refine ⟨?_, ?_⟩; focus first | rfl | trivial | (simp [slot]; done)) | rfl | trivial | simp)) (Nat.le_trans hν0 (by simp)))
end Go.Proofs.YtfadociodcmhfaaGreatDoor
namespace Go.Proofs.YtfadociodcmhfaaGreatDoor
set_option linter.all false
open Go Go.RowKit Eng
set_option maxRecDepth 100000
set_option maxHeartbeats 32000000
def zeroW : List C := [.v (.slice none 0 0), .v (.slice none 0 0), .v (.slice none 0 0), .v (.slice none 0 0), .v (.slice none 0 0), .v (.bool false), .v (.string ⟨#[]⟩), .v (.string ⟨#[]⟩)]
def rsM (m : List Int) (a : List Am) (w : List (List Vt)) (p : List Pt) (s : List Sl) (g : List Gt) : List Res :=
  [.box 31 zeroW, .box 200 [raws m], .box 31 [.rv 3, .rv 4, .rv 5, .rv 6, .rv 7, .v (.bool false), .v (.string ⟨#[]⟩), .v (.string ⟨#[]⟩)], .row 51 12 (a.map Am.enc), .row 34 1 (w.map fun s => [vts s]), .row 102 12 (p.map Pt.enc), .row 77 14 (s.map Sl.enc), .row 61 13 (g.map Gt.enc)]
theorem part_name (n : Nat) (h : n < 2) : ([[C.v (.string ⟨#[98, 111, 108, 116]⟩)], [C.v (.string ⟨#[110, 117, 116]⟩)]] : List (List C))[n]? = some [C.v (.string (bs (partN n)))] := by
  match n, h with
  | 0, _ => rfl
  | 1, _ => rfl
theorem slot_name (n : Nat) (h : n < 3) : ([[C.v (.string ⟨#[104, 101, 114, 101]⟩)], [C.v (.string ⟨#[116, 104, 101, 114, 101]⟩)], [C.v (.string ⟨#[98, 101, 121, 111, 110, 100]⟩)]] : List (List C))[n]? = some [C.v (.string (bs (slotN n)))] := by
  match n, h with
  | 0, _ => rfl
  | 1, _ => rfl
  | 2, _ => rfl
theorem f_works (l : List Int) : FSpec Tryz.prog 52 [raws l] (worksM l).c := by
  refine FSpec.of fn_gantmake_Works ok_gantmake_Works (by exact Nat.le_of_ble_eq_true rfl) fun w O => ?_
  have k0 := fun (E : Ctx) (hP : E.P = Tryz.prog) => h_next hP l 2 (by decide)
  have c0 := nx_nonneg l (n := 2) (by decide)
  have d0 := nx_lt l (n := 2) (by decide)
  have hc1 : ((nA l : Nat) : Int) = 1 + nx l 2 := by unfold nA; omega
  have z2 := nx_nonneg (l1 l) (n := 3) (by decide)
  have z3 := nx_nonneg (l2 l) (n := 3) (by decide)
  have z4 := nx_nonneg (l3 l) (n := 2) (by decide)
  have z5 := nx_nonneg (l4 l) (n := 2) (by decide)
  have z6 := nx_nonneg (l5 l) (n := 4) (by decide)
  have y6 := nx_lt (l5 l) (n := 4) (by decide)
  have hc2 : ((nW l : Nat) : Int) = nx (l1 l) 3 := by unfold nW; omega
  have hc3 : ((nP l : Nat) : Int) = nx (l2 l) 3 := by unfold nP; omega
  have hc4 : ((nS l : Nat) : Int) = (nP l : Int) + nx (l3 l) 2 := by unfold nS; omega
  have hc5 : ((nG l : Nat) : Int) = nx (l4 l) 2 := by unfold nG; omega
  obtain ⟨cc1, cc2, cc3, cc4, cc5⟩ := counts l
  have q1 : l1 l = armsR (nA l) (l.drop 1) := rfl
  have q2 : l2 l = (l1 l).drop (1 + 5 * nW l) := rfl
  have q3 : l3 l = partsR (nP l) ((l2 l).drop 1) := rfl
  have q4 : l4 l = (l3 l).drop (1 + 4 * nS l) := rfl
  have q5 : l5 l = (l4 l).drop (1 + 4 * nG l) := rfl
  unfold worksM
  generalize nA l = cA at *
  generalize nW l = cW at *
  generalize nP l = cP at *
  generalize nS l = cS at *
  generalize nG l = cG at *
  generalize l5 l = L5 at *
  generalize l4 l = L4 at *
  generalize l3 l = L3 at *
  generalize l2 l = L2 at *
  generalize l1 l = L1 at *
  generalize l.drop 1 = s0 at *
  generalize nx l 2 = x0 at *
  have k1 := fun (E : Ctx) (hP : E.P = Tryz.prog) => h_next hP L1 3 (by decide)
  have k2 := fun (E : Ctx) (hP : E.P = Tryz.prog) => h_next hP L2 3 (by decide)
  have k3 := fun (E : Ctx) (hP : E.P = Tryz.prog) => h_next hP L3 2 (by decide)
  have k4 := fun (E : Ctx) (hP : E.P = Tryz.prog) => h_next hP L4 2 (by decide)
  have k5 := fun (E : Ctx) (hP : E.P = Tryz.prog) => h_next hP L5 4 (by decide)
  simp only [raws, ints] at k1 k2 k3 k4 k5
  simp only [ir_gantmake_Works, frOf, TT, II, OA, OB, OC, MM, LL, VV, FF, MG, LG, VG, FG]
  simp only [raws, ints] at k0 ⊢
  (repeat first | refine uA ?_ | (apply S.exit; exact rfl) | ((with_reducible refine And.intro ?_ ?_); focus first | omega | trivial | exact id | (intros; simp_all <;> omega)) | simp (disch := omega) only [go_sem, Nat.reduceBEq, Nat.reduceAdd, Nat.reduceLeDiff, Int.reduceToNat, Int.reducePow, ww] | refine CallOK.t (CallT.lift (k := 1) rfl (k0 _ rfl) rfl rfl rfl) ?_)
  rw [← hc1]
  refine S.loop (X := Nat × List Am × List Int) (fun x => ⟨[(2, .bp 0 0), (3, .bp 1 0), (4, .bp 2 0), (17, ints cA), (18, ints x.1)], rsM x.2.2 x.2.1 [] [] [] []⟩)
    (fun x => x.1 ≤ cA ∧ x.2.1.length = x.1 ∧ x.2.1 ++ armsS (cA - x.1) x.1 x.2.2 = armsS cA 0 s0 ∧ armsR (cA - x.1) x.2.2 = armsR cA s0) (fun x => cA - x.1) (0, [], s0) ⟨Nat.zero_le _, rfl, rfl, rfl⟩
    (Ent.trans (Ent.packB 2 0 51 12 rfl rfl rfl) (Ent.trans (Ent.packB 2 1 34 1 rfl rfl rfl) (Ent.trans (Ent.packB 2 2 102 12 rfl rfl rfl) (Ent.trans (Ent.packB 2 3 77 14 rfl rfl rfl) (Ent.trans (Ent.packB 2 4 61 13 rfl rfl rfl) (by simp only [rsM, raws, zeroW]; exact (by (repeat first | refine uA ?_ | (refine ⟨?_, ?_⟩; focus first | rfl | trivial | (simp [slot]; done)) | rfl | trivial | simp)))))))) ?_
  rintro ⟨i, am, ma⟩ ⟨hi, hl, hL, hM⟩
  simp only [rsM, zeroW, raws, ints] at hi hl hL hM ⊢
  (repeat first | refine uA ?_ | (apply S.exit; exact rfl) | ((with_reducible refine And.intro ?_ ?_); focus first | omega | trivial | exact id | (intros; simp_all <;> omega)) | simp (disch := omega) only [go_sem, Nat.reduceBEq, Nat.reduceAdd, Nat.reduceLeDiff, Int.reduceToNat, Int.reducePow, ww])
  (refine uJ rfl (fun hc => ?_) fun hc => ?_)
  · have hi' : i < cA := by omega
    rw [show cA - i = (cA - (i + 1)) + 1 by omega, armsS] at hL
    rw [show cA - i = (cA - (i + 1)) + 1 by omega, armsR] at hM
    have ha := fun (E : Ctx) (hP : E.P = Tryz.prog) => h_arm hP ma i (by omega)
    generalize armV ma i = A at *
    generalize armR ma = m' at *
    simp only [raws, Am.c, Am.enc, lks, sb] at ha
    (repeat first | refine uI ?_ | (apply S.exit; exact rfl) | ((with_reducible refine And.intro ?_ ?_); focus first | omega | trivial | exact id | (intros; simp_all <;> omega)) | simp (disch := omega) only [go_sem, Nat.reduceBEq, Nat.reduceAdd, Nat.reduceLeDiff, Int.reduceToNat, Int.reducePow, ww])
    refine S.regd [.gone, .gone, .box 31 [.rv 3, .rv 4, .rv 5, .rv 6, .rv 7, .v (.bool false), .v (.string ⟨#[]⟩), .v (.string ⟨#[]⟩)]] ⟨rfl, True.intro⟩ ?_
    (repeat first | refine uA ?_ | (apply S.exit; exact rfl) | ((with_reducible refine And.intro ?_ ?_); focus first | omega | trivial | exact id | (intros; simp_all <;> omega)) | simp (disch := omega) only [go_sem, Nat.reduceBEq, Nat.reduceAdd, Nat.reduceLeDiff, Int.reduceToNat, Int.reducePow, ww, List.length_map, hl, subR] | refine CallOK.t (CallT.lift (k := 1) rfl (ha _ rfl) rfl rfl rfl) ?_)
    refine S.next (x := (i, am, ma)) (i + 1, am ++ [A], m') ⟨by simp only; omega, by simp [hl], by simp only; rw [List.append_assoc]; exact hL, by simp only; exact hM⟩ (by simp only; omega) (by simp only [rsM, raws, zeroW, List.map_append, List.map_cons, List.map_nil]; exact (by (repeat first | refine uA ?_ | (refine ⟨?_, ?_⟩; focus first | rfl | trivial | (simp [slot]; done)) | rfl | trivial | simp)))
  have hi' : i = cA := by omega
  subst hi'
  rw [Nat.sub_self, armsS, List.append_nil] at hL
  rw [Nat.sub_self, armsR] at hM
  have hm : ma = L1 := by rw [q1]; exact hM
  subst hm
  rw [← hL]
  (repeat first | refine uA ?_ | (apply S.exit; exact rfl) | ((with_reducible refine And.intro ?_ ?_); focus first | omega | trivial | exact id | (intros; simp_all <;> omega)) | simp (disch := omega) only [go_sem, Nat.reduceBEq, Nat.reduceAdd, Nat.reduceLeDiff, Int.reduceToNat, Int.reducePow, ww] | refine CallOK.t (CallT.lift (k := 1) rfl (k1 _ rfl) rfl rfl rfl) ?_)
  rw [← hc2]
  refine S.loop (X := Nat × List (List Vt) × List Int) (fun x => ⟨[(2, .bp 0 0), (3, .bp 1 0), (4, .bp 2 0), (31, ints cW), (32, ints x.1)], rsM x.2.2 am x.2.1 [] [] []⟩)
    (fun x => x.1 ≤ cW ∧ x.2.1.length = x.1 ∧ x.2.1 ++ wallsS (cW - x.1) x.2.2 = wallsS cW (ma.drop 1) ∧ x.2.2.drop (5 * (cW - x.1)) = (ma.drop 1).drop (5 * cW)) (fun x => cW - x.1) (0, [], ma.drop 1) ⟨Nat.zero_le _, rfl, rfl, rfl⟩ (by simp only [rsM, raws, zeroW]; exact (by (repeat first | refine uA ?_ | (refine ⟨?_, ?_⟩; focus first | rfl | trivial | (simp [slot]; done)) | rfl | trivial | simp))) ?_
  rintro ⟨i, ws, mw⟩ ⟨hi, hl, hL, hM⟩
  simp only [rsM, zeroW, raws, ints] at hi hl hL hM ⊢
  (repeat first | refine uA ?_ | (apply S.exit; exact rfl) | ((with_reducible refine And.intro ?_ ?_); focus first | omega | trivial | exact id | (intros; simp_all <;> omega)) | simp (disch := omega) only [go_sem, Nat.reduceBEq, Nat.reduceAdd, Nat.reduceLeDiff, Int.reduceToNat, Int.reducePow, ww])
  (refine uJ rfl (fun hc => ?_) fun hc => ?_)
  · have hi' : i < cW := by omega
    rw [show cW - i = (cW - (i + 1)) + 1 by omega, wallsS] at hL
    have hM2 : (mw.drop 5).drop (5 * (cW - (i + 1))) = (ma.drop 1).drop (5 * cW) := by rw [← hM, List.drop_drop]; congr 1; omega
    have n0 := fun (E : Ctx) (hP : E.P = Tryz.prog) => h_next hP mw 80 (by decide)
    have a0 := nx_nonneg mw (n := 80) (by decide)
    have b0 := nx_lt mw (n := 80) (by decide)
    have n1 := fun (E : Ctx) (hP : E.P = Tryz.prog) => h_next hP (mw.drop 1) 30 (by decide)
    have a1 := nx_nonneg (mw.drop 1) (n := 30) (by decide)
    have b1 := nx_lt (mw.drop 1) (n := 30) (by decide)
    have n2 := fun (E : Ctx) (hP : E.P = Tryz.prog) => h_next hP (mw.drop 2) 2 (by decide)
    have a2 := nx_nonneg (mw.drop 2) (n := 2) (by decide)
    have b2 := nx_lt (mw.drop 2) (n := 2) (by decide)
    have n3 := fun (E : Ctx) (hP : E.P = Tryz.prog) => h_next hP (mw.drop 3) 20 (by decide)
    have a3 := nx_nonneg (mw.drop 3) (n := 20) (by decide)
    have b3 := nx_lt (mw.drop 3) (n := 20) (by decide)
    have n4 := fun (E : Ctx) (hP : E.P = Tryz.prog) => h_next hP (mw.drop 4) 5 (by decide)
    have a4 := nx_nonneg (mw.drop 4) (n := 5) (by decide)
    have b4 := nx_lt (mw.drop 4) (n := 5) (by decide)
    simp only [List.drop_drop, raws, ints] at n0 n1 n2 n3 n4
    have hwy : -1000 ≤ wallY mw ∧ wallY mw ≤ 1000 := by unfold wallY; split <;> omega
    have o1 := f_rect (nx mw 80 - 30) (wallY mw) (nx mw 80 - 30 + 1 + nx (mw.drop 3) 20) (wallY mw + 1 + nx (mw.drop 4) 5) (by omega) (by omega) (by omega) (by omega)
    unfold wallV at hL
    generalize rectV (nx mw 80 - 30) (wallY mw) (nx mw 80 - 30 + 1 + nx (mw.drop 3) 20) (wallY mw + 1 + nx (mw.drop 4) 5) = R at *
    have hwe : wallY mw = if nx (mw.drop 2) 2 = 1 then -(12 + nx (mw.drop 1) 30) - 6 else 12 + nx (mw.drop 1) 30 := rfl
    generalize wallY mw = Y at *
    generalize nx mw 80 = x1 at *
    generalize nx (mw.drop 1) 30 = x2 at *
    generalize nx (mw.drop 2) 2 = x3 at *
    generalize nx (mw.drop 3) 20 = x4 at *
    generalize nx (mw.drop 4) 5 = x5 at *
    simp only [ints, vts] at o1
    (repeat first | refine uA ?_ | (apply S.exit; exact rfl) | ((with_reducible refine And.intro ?_ ?_); focus first | omega | trivial | exact id | (intros; simp_all <;> omega)) | simp (disch := omega) only [go_sem, Nat.reduceBEq, Nat.reduceAdd, Nat.reduceLeDiff, Int.reduceToNat, Int.reducePow, ww] | refine CallOK.t (CallT.lift (k := 1) rfl (n0 _ rfl) rfl rfl rfl) ?_ | refine CallOK.t (CallT.lift (k := 1) rfl (n1 _ rfl) rfl rfl rfl) ?_ | refine CallOK.t (CallT.lift (k := 1) rfl (n2 _ rfl) rfl rfl rfl) ?_)
    refine S.join (Y := Int) (fun y => ⟨[(2, .bp 0 0), (3, .bp 1 0), (4, .bp 2 0), (6, ints (x1 - 30)), (7, ints y), (31, ints cW), (32, ints i)], rsM (mw.drop 3) am ws [] [] []⟩) (fun y => y = Y) ?_ ?_
    · refine S.cond rfl (fun hc => ?_) (fun hc => ?_)
      · have hn2 : IntKind.i64.wrap (0 - (12 + x2)) = -(12 + x2) := by rw [Eng.wrap_i64 (by omega)]; omega
        (repeat first | refine uA ?_ | (apply S.exit; exact rfl) | ((with_reducible refine And.intro ?_ ?_); focus first | omega | trivial | exact id | (intros; simp_all <;> omega)) | simp (disch := omega) only [go_sem, Nat.reduceBEq, Nat.reduceAdd, Nat.reduceLeDiff, Int.reduceToNat, Int.reducePow, ww, hn2])
        exact S.met (-(12 + x2) - 6) (by simp at hc; rw [hwe, if_pos hc]) (by simp only [rsM, raws, zeroW]; exact (by (repeat first | refine uA ?_ | (refine ⟨?_, ?_⟩; focus first | rfl | trivial | (simp [slot]; done)) | rfl | trivial | simp)))
      · (repeat first | refine uA ?_ | (apply S.exit; exact rfl) | ((with_reducible refine And.intro ?_ ?_); focus first | omega | trivial | exact id | (intros; simp_all <;> omega)) | simp (disch := omega) only [go_sem, Nat.reduceBEq, Nat.reduceAdd, Nat.reduceLeDiff, Int.reduceToNat, Int.reducePow, ww])
        exact S.met (12 + x2) (by simp at hc; rw [hwe, if_neg hc]) (by simp only [rsM, raws, zeroW]; exact (by (repeat first | refine uA ?_ | (refine ⟨?_, ?_⟩; focus first | rfl | trivial | (simp [slot]; done)) | rfl | trivial | simp)))
    rintro y rfl
    simp only [rsM, zeroW, raws, ints]
    (repeat first | refine uI ?_ | (apply S.exit; exact rfl) | ((with_reducible refine And.intro ?_ ?_); focus first | omega | trivial | exact id | (intros; simp_all <;> omega)) | simp (disch := omega) only [go_sem, Nat.reduceBEq, Nat.reduceAdd, Nat.reduceLeDiff, Int.reduceToNat, Int.reducePow, ww])
    refine S.regd [.gone, .gone, .box 31 [.rv 3, .rv 4, .rv 5, .rv 6, .rv 7, .v (.bool false), .v (.string ⟨#[]⟩), .v (.string ⟨#[]⟩)]] ⟨rfl, True.intro⟩ ?_
    (repeat first | refine uA ?_ | (apply S.exit; exact rfl) | ((with_reducible refine And.intro ?_ ?_); focus first | omega | trivial | exact id | (intros; simp_all <;> omega)) | simp (disch := omega) only [go_sem, Nat.reduceBEq, Nat.reduceAdd, Nat.reduceLeDiff, Int.reduceToNat, Int.reducePow, ww, List.length_map, hl, subR] | refine CallOK.t (CallT.lift (k := 1) rfl (n3 _ rfl) rfl rfl rfl) ?_ | refine CallOK.t (CallT.lift (k := 1) rfl (n4 _ rfl) rfl rfl rfl) ?_ | (refine uB o1 ?_ ?_; exact rfl))
    refine S.next (x := (i, ws, mw)) (i + 1, ws ++ [R], mw.drop 5) ⟨by simp only; omega, by simp [hl], by simp only; rw [List.append_assoc]; exact hL, by simp only; exact hM2⟩ (by simp only; omega) (by simp only [rsM, raws, zeroW, List.map_append, List.map_cons, List.map_nil]; exact (by (repeat first | refine uA ?_ | (refine ⟨?_, ?_⟩; focus first | rfl | trivial | (simp [slot]; done)) | rfl | trivial | simp)))
  have hi' : i = cW := by omega
  subst hi'
  rw [Nat.sub_self, wallsS, List.append_nil] at hL
  rw [Nat.sub_self, Nat.mul_zero, List.drop_zero, List.drop_drop] at hM
  have hm : mw = L2 := by rw [q2]; exact hM
  subst hm
  rw [← hL]
  (repeat first | refine uA ?_ | (apply S.exit; exact rfl) | ((with_reducible refine And.intro ?_ ?_); focus first | omega | trivial | exact id | (intros; simp_all <;> omega)) | simp (disch := omega) only [go_sem, Nat.reduceBEq, Nat.reduceAdd, Nat.reduceLeDiff, Int.reduceToNat, Int.reducePow, ww] | refine CallOK.t (CallT.lift (k := 1) rfl (k2 _ rfl) rfl rfl rfl) ?_)
  rw [← hc3]
  refine S.loop (X := Nat × List Pt × List Int) (fun x => ⟨[(2, .bp 0 0), (3, .bp 1 0), (4, .bp 2 0), (66, ints cP), (67, ints x.1)], rsM x.2.2 am ws x.2.1 [] []⟩)
    (fun x => x.1 ≤ cP ∧ x.2.1.length = x.1 ∧ x.2.1 ++ partsS (cP - x.1) x.1 x.2.2 = partsS cP 0 (mw.drop 1) ∧ partsR (cP - x.1) x.2.2 = partsR cP (mw.drop 1)) (fun x => cP - x.1) (0, [], mw.drop 1) ⟨Nat.zero_le _, rfl, rfl, rfl⟩ (by simp only [rsM, raws, zeroW]; exact (by (repeat first | refine uA ?_ | (refine ⟨?_, ?_⟩; focus first | rfl | trivial | (simp [slot]; done)) | rfl | trivial | simp))) ?_
  rintro ⟨i, ps, mp⟩ ⟨hi, hl, hL, hM⟩
  simp only [rsM, zeroW, raws, ints] at hi hl hL hM ⊢
  (repeat first | refine uA ?_ | (apply S.exit; exact rfl) | ((with_reducible refine And.intro ?_ ?_); focus first | omega | trivial | exact id | (intros; simp_all <;> omega)) | simp (disch := omega) only [go_sem, Nat.reduceBEq, Nat.reduceAdd, Nat.reduceLeDiff, Int.reduceToNat, Int.reducePow, ww])
  (refine uJ rfl (fun hc => ?_) fun hc => ?_)
  · have hi' : i < cP := by omega
    rw [show cP - i = (cP - (i + 1)) + 1 by omega, partsS] at hL
    rw [show cP - i = (cP - (i + 1)) + 1 by omega, partsR] at hM
    have hp := fun (E : Ctx) (hP : E.P = Tryz.prog) => h_poly hP mp
    have hnm := part_name i (by omega)
    have o1 := f_at 0 0 (by decide) (by decide)
    have o2 := f_gof 0 1 (by decide) (by decide)
    unfold partV at hL
    unfold atV at o1
    generalize (polyS mp).1 = sh at *
    generalize (polyS mp).2 = m' at *
    generalize Q 0 4 = qa at *
    generalize Q 0 1 = qb at *
    generalize partN i = nm at *
    simp only [raws, vts, Vt.c, Vt.enc, rc, sb, ints] at hp o1 o2
    (repeat first | refine uI ?_ | (apply S.exit; exact rfl) | ((with_reducible refine And.intro ?_ ?_); focus first | omega | trivial | exact id | (intros; simp_all <;> omega)) | simp (disch := omega) only [go_sem, Nat.reduceBEq, Nat.reduceAdd, Nat.reduceLeDiff, Int.reduceToNat, Int.reducePow, ww])
    refine S.regd [.gone, .gone, .box 31 [.rv 3, .rv 4, .rv 5, .rv 6, .rv 7, .v (.bool false), .v (.string ⟨#[]⟩), .v (.string ⟨#[]⟩)]] ⟨rfl, True.intro⟩ ?_
    (repeat first | refine uA ?_ | (apply S.exit; exact rfl) | ((with_reducible refine And.intro ?_ ?_); focus first | omega | trivial | exact id | (intros; simp_all <;> omega)) | simp (disch := omega) only [go_sem, Nat.reduceBEq, Nat.reduceAdd, Nat.reduceLeDiff, Int.reduceToNat, Int.reducePow, ww, List.length_map, hl, subR, hnm, Int.toNat_natCast] | refine CallOK.t (CallT.lift (k := 1) rfl (hp _ rfl) rfl rfl rfl) ?_ | (refine uB o1 ?_ ?_; exact rfl) | (refine uB o2 ?_ ?_; exact rfl))
    refine S.next (x := (i, ps, mp)) (i + 1, ps ++ [⟨nm, sh, ⟨qa, qa, false, qb⟩⟩], m') ⟨by simp only; omega, by simp [hl], by simp only; rw [List.append_assoc]; exact hL, by simp only; exact hM⟩ (by simp only; omega) (by simp only [rsM, raws, zeroW, List.map_append, List.map_cons, List.map_nil]; exact (by (repeat first | refine uA ?_ | (refine ⟨?_, ?_⟩; focus first | rfl | trivial | (simp [slot]; done)) | rfl | trivial | simp)))
  have hi' : i = cP := by omega
  subst hi'
  rw [Nat.sub_self, partsS, List.append_nil] at hL
  rw [Nat.sub_self, partsR] at hM
  have hm : mp = L3 := by rw [q3]; exact hM
  subst hm
  rw [← hL]
  (repeat first | refine uI ?_ | (apply S.exit; exact rfl) | ((with_reducible refine And.intro ?_ ?_); focus first | omega | trivial | exact id | (intros; simp_all <;> omega)) | simp (disch := omega) only [go_sem, Nat.reduceBEq, Nat.reduceAdd, Nat.reduceLeDiff, Int.reduceToNat, Int.reducePow, ww])
  refine S.regd [.gone, .gone, .box 31 [.rv 3, .rv 4, .rv 5, .rv 6, .rv 7, .v (.bool false), .v (.string ⟨#[]⟩), .v (.string ⟨#[]⟩)], .gone, .gone, .row 102 12 (ps.map Pt.enc)] ⟨rfl, rfl, True.intro⟩ ?_
  (repeat first | refine uA ?_ | (apply S.exit; exact rfl) | ((with_reducible refine And.intro ?_ ?_); focus first | omega | trivial | exact id | (intros; simp_all <;> omega)) | simp (disch := omega) only [go_sem, Nat.reduceBEq, Nat.reduceAdd, Nat.reduceLeDiff, Int.reduceToNat, Int.reducePow, ww, List.length_map, hl, subR] | refine CallOK.t (CallT.lift (k := 1) rfl (k3 _ rfl) rfl rfl rfl) ?_)
  rw [← hc4]
  refine S.loop (X := Nat × List Sl × List Int) (fun x => ⟨[(2, .bp 0 0), (3, .bp 1 0), (4, .bp 2 0), (92, ints cS), (93, ints x.1)], rsM x.2.2 am ws ps x.2.1 []⟩)
    (fun x => x.1 ≤ cS ∧ x.2.1.length = x.1 ∧ x.2.1 ++ slotsS (cS - x.1) x.1 x.2.2 = slotsS cS 0 (mp.drop 1) ∧ x.2.2.drop (4 * (cS - x.1)) = (mp.drop 1).drop (4 * cS)) (fun x => cS - x.1) (0, [], mp.drop 1) ⟨Nat.zero_le _, rfl, rfl, rfl⟩ (by simp only [rsM, raws, zeroW]; exact (by (repeat first | refine uA ?_ | (refine ⟨?_, ?_⟩; focus first | rfl | trivial | (simp [slot]; done)) | rfl | trivial | simp))) ?_
  rintro ⟨i, ss, ms⟩ ⟨hi, hl, hL, hM⟩
  simp only [rsM, zeroW, raws, ints] at hi hl hL hM ⊢
  (repeat first | refine uA ?_ | (apply S.exit; exact rfl) | ((with_reducible refine And.intro ?_ ?_); focus first | omega | trivial | exact id | (intros; simp_all <;> omega)) | simp (disch := omega) only [go_sem, Nat.reduceBEq, Nat.reduceAdd, Nat.reduceLeDiff, Int.reduceToNat, Int.reducePow, ww])
  (refine uJ rfl (fun hc => ?_) fun hc => ?_)
  · have hi' : i < cS := by omega
    rw [show cS - i = (cS - (i + 1)) + 1 by omega, slotsS] at hL
    have hM2 : (ms.drop 4).drop (4 * (cS - (i + 1))) = (mp.drop 1).drop (4 * cS) := by rw [← hM, List.drop_drop]; congr 1; omega
    have n0 := fun (E : Ctx) (hP : E.P = Tryz.prog) => h_next hP ms 40 (by decide)
    have a0 := nx_nonneg ms (n := 40) (by decide)
    have b0 := nx_lt ms (n := 40) (by decide)
    have n1 := fun (E : Ctx) (hP : E.P = Tryz.prog) => h_next hP (ms.drop 1) 24 (by decide)
    have a1 := nx_nonneg (ms.drop 1) (n := 24) (by decide)
    have b1 := nx_lt (ms.drop 1) (n := 24) (by decide)
    have n2 := fun (E : Ctx) (hP : E.P = Tryz.prog) => h_next hP (ms.drop 2) 5 (by decide)
    have a2 := nx_nonneg (ms.drop 2) (n := 5) (by decide)
    have b2 := nx_lt (ms.drop 2) (n := 5) (by decide)
    have n3 := fun (E : Ctx) (hP : E.P = Tryz.prog) => h_next hP (ms.drop 3) 20 (by decide)
    have a3 := nx_nonneg (ms.drop 3) (n := 20) (by decide)
    have b3 := nx_lt (ms.drop 3) (n := 20) (by decide)
    simp only [List.drop_drop, raws, ints] at n0 n1 n2 n3
    have hnm := slot_name i (by omega)
    have o1 := f_at (nx ms 40 - 20) (nx (ms.drop 1) 24 - 12) (by omega) (by omega)
    have o2 := f_gof (nx (ms.drop 2) 5 - 2) 2 (by omega) (by decide)
    have o3 := f_gof 1 (8 + nx (ms.drop 3) 20) (by decide) (by omega)
    unfold slotV at hL
    unfold atV at o1
    generalize Q (nx ms 40 - 20) 4 = qa at *
    generalize Q (nx (ms.drop 1) 24 - 12) 4 = qb at *
    generalize Q (nx (ms.drop 2) 5 - 2) 2 = qc at *
    generalize Q 1 (8 + nx (ms.drop 3) 20) = qd at *
    generalize slotN i = nm at *
    generalize nx ms 40 = x1 at *
    generalize nx (ms.drop 1) 24 = x2 at *
    generalize nx (ms.drop 2) 5 = x3 at *
    generalize nx (ms.drop 3) 20 = x4 at *
    simp only [Vt.c, Vt.enc, rc, sb, ints] at o1 o2 o3
    (repeat first | refine uI ?_ | (apply S.exit; exact rfl) | ((with_reducible refine And.intro ?_ ?_); focus first | omega | trivial | exact id | (intros; simp_all <;> omega)) | simp (disch := omega) only [go_sem, Nat.reduceBEq, Nat.reduceAdd, Nat.reduceLeDiff, Int.reduceToNat, Int.reducePow, ww])
    refine S.regd [.gone, .gone, .box 31 [.rv 3, .rv 4, .rv 5, .rv 6, .rv 7, .v (.bool false), .v (.string ⟨#[]⟩), .v (.string ⟨#[]⟩)]] ⟨rfl, True.intro⟩ ?_
    (repeat first | refine uA ?_ | (apply S.exit; exact rfl) | ((with_reducible refine And.intro ?_ ?_); focus first | omega | trivial | exact id | (intros; simp_all <;> omega)) | simp (disch := omega) only [go_sem, Nat.reduceBEq, Nat.reduceAdd, Nat.reduceLeDiff, Int.reduceToNat, Int.reducePow, ww, List.length_map, hl, subR, hnm, Int.toNat_natCast] | refine CallOK.t (CallT.lift (k := 1) rfl (n0 _ rfl) rfl rfl rfl) ?_ | refine CallOK.t (CallT.lift (k := 1) rfl (n1 _ rfl) rfl rfl rfl) ?_ | refine CallOK.t (CallT.lift (k := 1) rfl (n2 _ rfl) rfl rfl rfl) ?_ | refine CallOK.t (CallT.lift (k := 1) rfl (n3 _ rfl) rfl rfl rfl) ?_ | (refine uB o1 ?_ ?_; exact rfl) | (refine uB o2 ?_ ?_; exact rfl) | (refine uB o3 ?_ ?_; exact rfl))
    refine S.next (x := (i, ss, ms)) (i + 1, ss ++ [⟨nm, ⟨qa, qb, false, qc⟩, qd⟩], ms.drop 4) ⟨by simp only; omega, by simp [hl], by simp only; rw [List.append_assoc]; exact hL, by simp only; exact hM2⟩ (by simp only; omega) (by simp only [rsM, raws, zeroW, List.map_append, List.map_cons, List.map_nil]; exact (by (repeat first | refine uA ?_ | (refine ⟨?_, ?_⟩; focus first | rfl | trivial | (simp [slot]; done)) | rfl | trivial | simp)))
  have hi' : i = cS := by omega
  subst hi'
  rw [Nat.sub_self, slotsS, List.append_nil] at hL
  rw [Nat.sub_self, Nat.mul_zero, List.drop_zero, List.drop_drop] at hM
  have hm : ms = L4 := by rw [q4]; exact hM
  subst hm
  rw [← hL]
  (repeat first | refine uA ?_ | (apply S.exit; exact rfl) | ((with_reducible refine And.intro ?_ ?_); focus first | omega | trivial | exact id | (intros; simp_all <;> omega)) | simp (disch := omega) only [go_sem, Nat.reduceBEq, Nat.reduceAdd, Nat.reduceLeDiff, Int.reduceToNat, Int.reducePow, ww] | refine CallOK.t (CallT.lift (k := 1) rfl (k4 _ rfl) rfl rfl rfl) ?_)
  rw [← hc5]
  refine S.loop (X := Nat × List Gt × List Int) (fun x => ⟨[(2, .bp 0 0), (3, .bp 1 0), (4, .bp 2 0), (125, ints cG), (126, ints x.1)], rsM x.2.2 am ws ps ss x.2.1⟩)
    (fun x => x.1 ≤ cG ∧ x.2.1.length = x.1 ∧ x.2.1 ++ gatesS (cG - x.1) x.2.2 = gatesS cG (ms.drop 1) ∧ x.2.2.drop (4 * (cG - x.1)) = (ms.drop 1).drop (4 * cG)) (fun x => cG - x.1) (0, [], ms.drop 1) ⟨Nat.zero_le _, rfl, rfl, rfl⟩ (by simp only [rsM, raws, zeroW]; exact (by (repeat first | refine uA ?_ | (refine ⟨?_, ?_⟩; focus first | rfl | trivial | (simp [slot]; done)) | rfl | trivial | simp))) ?_
  rintro ⟨i, gs, mg⟩ ⟨hi, hl, hL, hM⟩
  simp only [rsM, zeroW, raws, ints] at hi hl hL hM ⊢
  (repeat first | refine uA ?_ | (apply S.exit; exact rfl) | ((with_reducible refine And.intro ?_ ?_); focus first | omega | trivial | exact id | (intros; simp_all <;> omega)) | simp (disch := omega) only [go_sem, Nat.reduceBEq, Nat.reduceAdd, Nat.reduceLeDiff, Int.reduceToNat, Int.reducePow, ww])
  (refine uJ rfl (fun hc => ?_) fun hc => ?_)
  · have hi' : i < cG := by omega
    rw [show cG - i = (cG - (i + 1)) + 1 by omega, gatesS] at hL
    have hM2 : (mg.drop 4).drop (4 * (cG - (i + 1))) = (ms.drop 1).drop (4 * cG) := by rw [← hM, List.drop_drop]; congr 1; omega
    have n0 := fun (E : Ctx) (hP : E.P = Tryz.prog) => h_next hP mg 60 (by decide)
    have a0 := nx_nonneg mg (n := 60) (by decide)
    have b0 := nx_lt mg (n := 60) (by decide)
    have n1 := fun (E : Ctx) (hP : E.P = Tryz.prog) => h_next hP (mg.drop 1) 60 (by decide)
    have a1 := nx_nonneg (mg.drop 1) (n := 60) (by decide)
    have b1 := nx_lt (mg.drop 1) (n := 60) (by decide)
    have n2 := fun (E : Ctx) (hP : E.P = Tryz.prog) => h_next hP (mg.drop 2) 12 (by decide)
    have a2 := nx_nonneg (mg.drop 2) (n := 12) (by decide)
    have b2 := nx_lt (mg.drop 2) (n := 12) (by decide)
    have n3 := fun (E : Ctx) (hP : E.P = Tryz.prog) => h_next hP (mg.drop 3) 12 (by decide)
    have a3 := nx_nonneg (mg.drop 3) (n := 12) (by decide)
    have b3 := nx_lt (mg.drop 3) (n := 12) (by decide)
    simp only [List.drop_drop, raws, ints] at n0 n1 n2 n3
    have o1 := f_at (nx mg 60 - 30) (nx (mg.drop 1) 60 - 30) (by omega) (by omega)
    have o2 := f_at (nx mg 60 - 30 + nx (mg.drop 2) 12) (nx (mg.drop 1) 60 - 30 + nx (mg.drop 3) 12) (by omega) (by omega)
    unfold gateV at hL
    generalize atV (nx mg 60 - 30) (nx (mg.drop 1) 60 - 30) = va at *
    generalize atV (nx mg 60 - 30 + nx (mg.drop 2) 12) (nx (mg.drop 1) 60 - 30 + nx (mg.drop 3) 12) = vb at *
    generalize nx mg 60 = x1 at *
    generalize nx (mg.drop 1) 60 = x2 at *
    generalize nx (mg.drop 2) 12 = x3 at *
    generalize nx (mg.drop 3) 12 = x4 at *
    simp only [Vt.c, Vt.enc, rc, sb, ints] at o1 o2
    (repeat first | refine uI ?_ | (apply S.exit; exact rfl) | ((with_reducible refine And.intro ?_ ?_); focus first | omega | trivial | exact id | (intros; simp_all <;> omega)) | simp (disch := omega) only [go_sem, Nat.reduceBEq, Nat.reduceAdd, Nat.reduceLeDiff, Int.reduceToNat, Int.reducePow, ww] | refine CallOK.t (CallT.lift (k := 1) rfl (n0 _ rfl) rfl rfl rfl) ?_ | refine CallOK.t (CallT.lift (k := 1) rfl (n1 _ rfl) rfl rfl rfl) ?_)
    refine S.regd [.gone, .gone, .box 31 [.rv 3, .rv 4, .rv 5, .rv 6, .rv 7, .v (.bool false), .v (.string ⟨#[]⟩), .v (.string ⟨#[]⟩)]] ⟨rfl, True.intro⟩ ?_
    (repeat first | refine uA ?_ | (apply S.exit; exact rfl) | ((with_reducible refine And.intro ?_ ?_); focus first | omega | trivial | exact id | (intros; simp_all <;> omega)) | simp (disch := omega) only [go_sem, Nat.reduceBEq, Nat.reduceAdd, Nat.reduceLeDiff, Int.reduceToNat, Int.reducePow, ww, List.length_map, hl, subR] | refine CallOK.t (CallT.lift (k := 1) rfl (n2 _ rfl) rfl rfl rfl) ?_ | refine CallOK.t (CallT.lift (k := 1) rfl (n3 _ rfl) rfl rfl rfl) ?_ | (refine uB o1 ?_ ?_; exact rfl) | (refine uB o2 ?_ ?_; exact rfl))
    refine S.next (x := (i, gs, mg)) (i + 1, gs ++ [⟨[100, 111, 111, 114], va, vb⟩], mg.drop 4) ⟨by simp only; omega, by simp [hl], by simp only; rw [List.append_assoc]; exact hL, by simp only; exact hM2⟩ (by simp only; omega) (by simp only [rsM, raws, zeroW, List.map_append, List.map_cons, List.map_nil]; exact (by (repeat first | refine uA ?_ | (refine ⟨?_, ?_⟩; focus first | rfl | trivial | (simp [slot]; done)) | rfl | trivial | simp)))
  have hi' : i = cG := by omega
  subst hi'
  rw [Nat.sub_self, gatesS, List.append_nil] at hL
  rw [Nat.sub_self, Nat.mul_zero, List.drop_zero, List.drop_drop] at hM
  have hm : mg = L5 := by rw [q5]; exact hM
  subst hm
  rw [← hL]
  have o1 := f_gof (nx mg 4) 8 (by omega) (by decide)
  generalize Q (nx mg 4) 8 = qw at *
  generalize nx mg 4 = x6 at *
  simp only [Wk.c, Wk.enc, ams, wls, pts, sls, gts, rc, sb, ints] at o1 ⊢
  (repeat first | refine uA ?_ | (apply S.exit; exact rfl) | ((with_reducible refine And.intro ?_ ?_); focus first | omega | trivial | exact id | (intros; simp_all <;> omega)) | simp (disch := omega) only [go_sem, Nat.reduceBEq, Nat.reduceAdd, Nat.reduceLeDiff, Int.reduceToNat, Int.reducePow, ww] | refine CallOK.t (CallT.lift (k := 1) rfl (k5 _ rfl) rfl rfl rfl) ?_ | (refine uB o1 ?_ ?_; exact rfl))
  (refine S.done ?_; simp only [retP, loadP, go_sem, Nat.reduceBEq, Nat.reduceAdd, Nat.reduceLeDiff, Int.reduceToNat, Int.reducePow]; (repeat (refine ⟨?_, ?_⟩; focus first | trivial | omega | simp)); exact RetOK.out rfl (Imp.agg (by (repeat' (first | exact ImpL.nil | exact Imp.refl rfl | exact Imp.frz rfl rfl rfl | exact Imp.nilsl | refine ImpL.cons ?_ ?_)))) rfl)
end Go.Proofs.YtfadociodcmhfaaGreatDoor
namespace Go.Proofs.YtfadociodcmhfaaGreatDoor
set_option linter.all false
open Go Go.RowKit Eng
set_option maxRecDepth 100000
set_option maxHeartbeats 16000000
def noneW : Wk := ⟨[], [], [], [], [], ⟨false, [], []⟩⟩
theorem nil_fz {w : World} {O : Nat → Prop} {sz : Nat} : Fz w O (.sl sz []) (.slice none 0 0) := by
  simp only [Fz]
  exact ⟨none, 0, rfl, Nat.le_refl _, Nat.zero_le _, fun h => absurd h (by simp)⟩
theorem f_check0 : FZ 11 [.agg [.v (.slice none 0 0), .v (.slice none 0 0), .v (.slice none 0 0), .v (.slice none 0 0), .v (.slice none 0 0), .v (.bool false), .v (.string ⟨#[]⟩), .v (.string ⟨#[]⟩)]] (ints 4) := by
  have h := f_worksE noneW ⟨⟨Nat.zero_le _, fun x hx => (by cases hx)⟩, ⟨Nat.zero_le _, fun x hx => (by cases hx)⟩, ⟨Nat.zero_le _, fun x hx => (by cases hx)⟩, ⟨Nat.zero_le _, fun x hx => (by cases hx)⟩, ⟨Nat.zero_le _, fun x hx => (by cases hx)⟩, ⟨Nat.zero_le _, Nat.zero_le _⟩⟩
  have he : worksE noneW = 4 := rfl
  rw [he] at h
  intro O w vs hw hO hA
  refine h O w vs hw hO ?_
  simp only [FzL, Fz] at hA
  obtain ⟨y, ys, rfl, ⟨us, ⟨y1, r1, rfl, rfl, y2, r2, rfl, rfl, y3, r3, rfl, rfl, y4, r4, rfl, rfl, y5, r5, rfl, rfl, y6, r6, rfl, rfl, y7, r7, rfl, rfl, y8, r8, rfl, rfl, rfl⟩, rfl⟩, rfl⟩ := hA
  refine ⟨_, _, rfl, ?_, rfl⟩
  simp only [Wk.c, Wk.enc, noneW, Fz]
  exact ⟨_, ⟨_, _, rfl, nil_fz, _, _, rfl, nil_fz, _, _, rfl, nil_fz, _, _, rfl, nil_fz, _, _, rfl, nil_fz, _, _, rfl, by simp only [Fz], _, _, rfl, by simp only [sb, Fz]; rfl, _, _, rfl, by simp only [sb, Fz]; rfl, rfl⟩, rfl⟩
theorem f_half' (a : Nm.Rt) (ha : Rb 1073741824 a) : FZ 14 [rc a] (rq (Nm.fitQ a * mkRat 1 2)) := by
  refine FSpecW.of fn_gantkeep2_half ok_gantkeep2_half (by exact Nat.le_of_ble_eq_true rfl) fun w O hw => ?_
  have h1 := f_gof 1 2 (by decide) (by decide)
  have h2 := f_rmul a (Q 1 2) (ha.mono (by decide)) ((small_big (small_Q 1 2 (by decide) (by decide))).mono (by decide))
  rw [fit_Q, show Int.toNat 2 = 2 from rfl] at h2
  unfold rq at *
  generalize Nm.ofQ (Nm.fitQ a * mkRat 1 2) = r at *
  generalize Q 1 2 = q at *
  simp only [ir_gantkeep2_half, frOf, TT, II, OA, OB, OC, MM, LL, VV, FF, MG, LG, VG, FG]
  simp only [rc, sb, ints] at *
  (repeat first | refine uA ?_ | (apply S.exit; exact rfl) | ((with_reducible refine And.intro ?_ ?_); focus first | omega | trivial | exact id | (intros; simp_all <;> omega)) | simp (disch := omega) only [go_sem, Nat.reduceBEq, Nat.reduceAdd, Nat.reduceLeDiff, Int.reduceToNat, Int.reducePow, ww] | (refine uB h1 ?_ ?_; exact rfl) | (refine uD h2 ?_ ?_ ?_; exact tz hw; exact rfl))
  (refine S.done ?_; simp only [retP, loadP, go_sem, Nat.reduceBEq, Nat.reduceAdd, Nat.reduceLeDiff, Int.reduceToNat, Int.reducePow]; (repeat (refine ⟨?_, ?_⟩; focus first | trivial | omega | simp)); exact RetOK.out rfl (Imp.refl rfl) rfl)
theorem f_begun (l : List Int) : FZ 9 [raws l] (.tup [(worksM l).c, (firstS (worksM l)).c, .v (.bool true)]) := by
  refine FSpecW.of fn_gantkeep2_begun ok_gantkeep2_begun (by exact Nat.le_of_ble_eq_true rfl) fun w' O hw => ?_
  have hk := works_ok l
  obtain ⟨ha, hs⟩ := begun_facts l
  have hb := works_big l
  have h1 := f_works l
  have h2 := f_first (worksM l) hb hk
  have h3 := f_stateE (worksM l) (firstS (worksM l)) hb (first_big hb ha hs)
  rw [first_ok hk ha hs] at h3
  have h4 := f_check0
  have e1 : (firstS (worksM l)).arms.length = (worksM l).arms.length := by simp [firstS]
  have e2 : (firstS (worksM l)).parts.length = (worksM l).parts.length := by simp [firstS]
  generalize firstS (worksM l) = s at *
  generalize worksM l = w at *
  obtain ⟨arms, walls, parts, slots, gates, walk⟩ := w
  obtain ⟨tick, sarms, sparts, people, sgates⟩ := s
  simp only at e1 e2
  have d1 : decide ((sarms.length : Int) = (arms.length : Int)) = true := decide_eq_true (by omega)
  have d2 : decide ((sparts.length : Int) = (parts.length : Int)) = true := decide_eq_true (by omega)
  simp only [ir_gantkeep2_begun, frOf, TT, II, OA, OB, OC, MM, LL, VV, FF, MG, LG, VG, FG]
  simp only [Wk.c, Wk.enc, Stt.c, Stt.enc, ams, wls, pts, sls, gts, asts, frs, vts, bls, rc, sb, ints, raws] at h1 h2 h3 h4 ⊢
  (repeat first | refine uI ?_ | (apply S.exit; exact rfl) | ((with_reducible refine And.intro ?_ ?_); focus first | omega | trivial | exact id | (intros; simp_all <;> omega)) | simp (disch := omega) only [go_sem, Nat.reduceBEq, Nat.reduceAdd, Nat.reduceLeDiff, Int.reduceToNat, Int.reducePow, ww] | (refine uB h1 ?_ ?_; exact rfl) | (refine uD h2 ?_ ?_ ?_; exact tz hw; exact rfl))
  refine S.regd [.gone, .gone, .gone, .box 37 [.v (.int .i64 tick), .sl 4 (sarms.map Ast.enc), .sl 10 (sparts.map Fr.enc), .sl 6 (people.map Vt.enc), .sl 1 (sgates.map fun b => [.v (.bool b)])]] ⟨rfl, True.intro⟩ ?_
  (repeat first | refine uA ?_ | (apply S.exit; exact rfl) | ((with_reducible refine And.intro ?_ ?_); focus first | omega | trivial | exact id | (intros; simp_all <;> omega)) | simp (disch := omega) only [go_sem, Nat.reduceBEq, Nat.reduceAdd, Nat.reduceLeDiff, Int.reduceToNat, Int.reducePow, ww, subR, List.length_map, e1, e2, d1, d2, decide_true, Bool.and_self] | (refine uD h3 ?_ ?_ ?_; exact tz hw; exact rfl) | (refine uD h4 ?_ ?_ ?_; exact tz hw; exact rfl))
  (refine S.done ?_; simp only [retP, loadP, go_sem, Nat.reduceBEq, Nat.reduceAdd, Nat.reduceLeDiff, Int.reduceToNat, Int.reducePow]; (repeat (refine ⟨?_, ?_⟩; focus first | trivial | omega | simp)); exact RetOK.out rfl (Imp.tup (by (repeat' (first | exact ImpL.nil | exact Imp.refl rfl | exact Imp.frz rfl rfl rfl | exact Imp.nilsl | refine Imp.agg ?_ | refine ImpL.cons ?_ ?_)))) rfl)
end Go.Proofs.YtfadociodcmhfaaGreatDoor
namespace Go.Proofs.YtfadociodcmhfaaGreatDoor
set_option linter.all false
open Go Go.RowKit Eng
set_option maxRecDepth 100000
set_option maxHeartbeats 16000000
theorem half_in {a b : Rat} (h : Nm.cmpQ a b ≤ 0) : ¬ Nm.cmpQ ((a + b) * mkRat 1 2) a < 0 ∧ ¬ 0 < Nm.cmpQ ((a + b) * mkRat 1 2) b := by
  rw [cmp_neg, cmp_pos]
  have h1 : ¬ 0 < Nm.cmpQ a b := by omega
  rw [cmp_pos] at h1
  have e : mkRat 1 2 = 1 / 2 := by decide +kernel
  rw [e]
  constructor <;> grind
theorem far_out {a : Rat} {k : Int} (h : 1 ≤ k) : 0 < Nm.cmpQ (a + mkRat k 3) a := by
  rw [cmp_pos]
  have := (mk_pos k (n := 3) (by decide)).2 (by omega)
  grind
theorem set_state {w : Wk} {s : Stt} (gs : List Bool) (h : stateE w s = 0) (hl : gs.length = s.gates.length) : stateE w ⟨s.tick, s.arms, s.parts, s.people, gs⟩ = 0 := by
  unfold stateE at h ⊢
  simp only [hl]
  exact h
theorem gate_facts (l : List Int) : ∀ z ∈ (worksM l).gates, Nm.cmpQ (Nm.fitQ z.low.x) (Nm.fitQ z.high.x) ≤ 0 ∧ Nm.cmpQ (Nm.fitQ z.low.y) (Nm.fitQ z.high.y) ≤ 0 ∧ (Rb 3 z.low.x ∧ Rb 3 z.low.y) ∧ Rb 3 z.high.x ∧ Rb 3 z.high.y := by
  intro z hz
  have h := (gatesS_ok (nG l) ((l4 l).drop 1)).1 z hz
  simp only [Bool.and_eq_true, decide_eq_true_eq] at h
  obtain ⟨⟨⟨h1, h2⟩, h3⟩, h4⟩ := h
  unfold okV at h1 h2
  simp only [Bool.and_eq_true] at h1 h2
  exact ⟨h3, h4, ⟨small_rb h1.1.2, small_rb h1.2⟩, small_rb h2.1.2, small_rb h2.2⟩
theorem f_MoveOpens (l : List Int) (is : Bool) (at' : List Int) (hn : at'.length ≤ 1000000000) : FZ 4 [raws l, .v (.bool is), raws at'] (.v (.bool true)) := by
  refine FSpecW.of fn_gantkeep2_MoveOpens ok_gantkeep2_MoveOpens (by exact Nat.le_of_ble_eq_true rfl) fun w' O hw => ?_
  have hk := works_ok l
  obtain ⟨ha, hs⟩ := begun_facts l
  have hb := works_big l
  have hbg := f_begun l
  have hsb := first_big hb ha hs
  have hst := first_ok hk ha hs
  have hgf := gate_facts l
  have hpe : (firstS (worksM l)).people = [] := rfl
  have hgl : (firstS (worksM l)).gates.length = (worksM l).gates.length := by simp [firstS]
  have ho1 := f_open (worksM l) (firstS (worksM l)) 0 true hb hsb hst
  have ho2 := f_open (worksM l) (firstS (worksM l)) 0 is hb hsb hst
  generalize firstS (worksM l) = s at *
  generalize worksM l = w at *
  by_cases hg : w.gates.length = 0
  · rw [if_neg (by omega)] at ho1
    obtain ⟨arms, walls, parts, slots, gates, walk⟩ := w
    obtain ⟨tick, sarms, sparts, people, sgates⟩ := s
    simp only at hg
    have e0 : decide ((gates.length : Int) = 0) = true := decide_eq_true (by omega)
    simp only [ir_gantkeep2_MoveOpens, frOf, TT, II, OA, OB, OC, MM, LL, VV, FF, MG, LG, VG, FG]
    simp only [Wk.c, Wk.enc, Stt.c, Stt.enc, ams, wls, pts, sls, gts, asts, frs, vts, bls, rc, sb, ints, raws, zeroS, Int.natCast_zero] at hbg ho1 ⊢
    (repeat first | refine uA ?_ | (apply S.exit; exact rfl) | ((with_reducible refine And.intro ?_ ?_); focus first | omega | trivial | exact id | (intros; simp_all <;> omega)) | simp (disch := omega) only [go_sem, Nat.reduceBEq, Nat.reduceAdd, Nat.reduceLeDiff, Int.reduceToNat, Int.reducePow, ww] | (refine uD hbg ?_ ?_ ?_; exact tz hw; exact rfl))
    refine S.cond rfl (fun hc => by simp at hc) (fun hc => ?_)
    (repeat first | refine uA ?_ | (apply S.exit; exact rfl) | ((with_reducible refine And.intro ?_ ?_); focus first | omega | trivial | exact id | (intros; simp_all <;> omega)) | simp (disch := omega) only [go_sem, Nat.reduceBEq, Nat.reduceAdd, Nat.reduceLeDiff, Int.reduceToNat, Int.reducePow, ww, List.length_map, e0])
    refine S.cond rfl (fun hc => ?_) (fun hc => by simp at hc)
    (repeat first | refine uA ?_ | (apply S.exit; exact rfl) | ((with_reducible refine And.intro ?_ ?_); focus first | omega | trivial | exact id | (intros; simp_all <;> omega)) | simp (disch := omega) only [go_sem, Nat.reduceBEq, Nat.reduceAdd, Nat.reduceLeDiff, Int.reduceToNat, Int.reducePow, ww, decide_true] | (refine uD ho1 ?_ ?_ ?_; exact tz hw; exact rfl))
    exact S.done (RetOK.out rfl (Imp.refl rfl) rfl)
  rw [if_pos (by omega)] at ho2
  have hz := List.getElem?_eq_getElem (show 0 < w.gates.length by omega)
  generalize w.gates[0]'_ = z at hz
  obtain ⟨hz1, hz2, ⟨zb1, zb2⟩, zb3, zb4⟩ := hgf z (List.mem_of_getElem? hz)
  have hs1 : stateE w ⟨s.tick, s.arms, s.parts, s.people, s.gates.set 0 is⟩ = 0 := set_state _ hst (by simp)
  have hsb1 : Stb 1073741824 ⟨s.tick, s.arms, s.parts, s.people, s.gates.set 0 is⟩ := ⟨hsb.arms, hsb.parts, hsb.people, by simpa using hsb.gates⟩
  have hob : (s.gates.set 0 is)[0]? = some is := List.getElem?_set_self (by omega)
  have a1 := f_radd z.low.x z.high.x (zb1.mono (by decide)) (zb3.mono (by decide))
  have a2 := f_radd z.low.y z.high.y (zb2.mono (by decide)) (zb4.mono (by decide))
  have r1 := rb_add (zb1.fit (by decide)) (zb3.fit (by decide))
  have r2 := rb_add (zb2.fit (by decide)) (zb4.fit (by decide))
  have hQ2 : Rb 3 (Nm.ofQ (mkRat 1 2)) := small_rb (small_Q 1 2 (by decide) (by decide))
  have m1 := half_in hz1
  have m2 := half_in hz2
  have b1 := f_half' (Nm.ofQ (Nm.fitQ z.low.x + Nm.fitQ z.high.x)) (r1.mono (by decide))
  have b2 := f_half' (Nm.ofQ (Nm.fitQ z.low.y + Nm.fitQ z.high.y)) (r2.mono (by decide))
  rw [Nm.fit_of] at b1 b2
  have r3 := rb_mul r1 hQ2
  have r4 := rb_mul r2 hQ2
  have hin : ¬ outB ⟨Nm.ofQ ((Nm.fitQ z.low.x + Nm.fitQ z.high.x) * mkRat 1 2), Nm.ofQ ((Nm.fitQ z.low.y + Nm.fitQ z.high.y) * mkRat 1 2)⟩ z := by
    unfold outB
    simp only [Nm.fit_of]
    rintro (h | h | h | h)
    · exact m1.1 h
    · exact m1.2 h
    · exact m2.1 h
    · exact m2.2 h
  have ent1 := f_enter w ⟨s.tick, s.arms, s.parts, s.people, s.gates.set 0 is⟩ 0 ⟨Nm.ofQ ((Nm.fitQ z.low.x + Nm.fitQ z.high.x) * mkRat 1 2), Nm.ofQ ((Nm.fitQ z.low.y + Nm.fitQ z.high.y) * mkRat 1 2)⟩ z is hb hsb1 hs1 hz hob ⟨r3.mono (by decide), r4.mono (by decide)⟩ (Nm.good_of _) (Nm.good_of _)
  have hbe := f_gbelow (at'.length : Int) 9 (by decide)
  have hkr : 0 ≤ (at'.length : Int) % 9 ∧ (at'.length : Int) % 9 < 9 := ⟨Int.emod_nonneg _ (by decide), Int.emod_lt_of_pos _ (by decide)⟩
  generalize (at'.length : Int) % 9 = k at *
  have q1 := f_gof (1 + k) 3 (by omega) (by decide)
  have q2 := f_gof 0 1 (by decide) (by decide)
  have s1 : Rb 3 (Q (1 + k) 3) := small_rb (small_Q _ _ (by omega) (by decide))
  have s2 : Rb 3 (Q 0 1) := small_rb (small_Q _ _ (by decide) (by decide))
  have ad := f_vadd z.high.x z.high.y (Q (1 + k) 3) (Q 0 1) (zb3.mono (by decide)) (zb4.mono (by decide)) (s1.mono (by decide)) (s2.mono (by decide))
  rw [fit_Q, fit_Q, show Int.toNat 3 = 3 from rfl, show Int.toNat 1 = 1 from rfl] at ad
  have fo := far_out (a := Nm.fitQ z.high.x) (k := 1 + k) (by omega)
  have s1' : Rb 3 (Nm.ofQ (mkRat (1 + k) 3)) := s1
  have s2' : Rb 3 (Nm.ofQ (mkRat 0 1)) := s2
  have r5 := rb_add (zb3.fit (by decide)) s1'
  have r6 := rb_add (zb4.fit (by decide)) s2'
  have hou : outB ⟨Nm.ofQ (Nm.fitQ z.high.x + mkRat (1 + k) 3), Nm.ofQ (Nm.fitQ z.high.y + mkRat 0 1)⟩ z := by
    unfold outB
    simp only [Nm.fit_of]
    exact .inr (.inl fo)
  have ent2 := f_enter w ⟨s.tick, s.arms, s.parts, s.people, s.gates.set 0 is⟩ 0 ⟨Nm.ofQ (Nm.fitQ z.high.x + mkRat (1 + k) 3), Nm.ofQ (Nm.fitQ z.high.y + mkRat 0 1)⟩ z is hb hsb1 hs1 hz hob ⟨r5.mono (by decide), r6.mono (by decide)⟩ (Nm.good_of _) (Nm.good_of _)
  rw [if_neg hin] at ent1
  rw [if_pos hou] at ent2
  simp only [hpe, List.length_nil] at ent1
  rw [if_neg (show ¬ (0 : Nat) = 4 by decide)] at ent1
  unfold vq at ad
  unfold rq at a1 a2 b1 b2
  generalize Nm.ofQ ((Nm.fitQ z.low.x + Nm.fitQ z.high.x) * mkRat 1 2) = px at *
  generalize Nm.ofQ ((Nm.fitQ z.low.y + Nm.fitQ z.high.y) * mkRat 1 2) = py at *
  generalize Nm.ofQ (Nm.fitQ z.low.x + Nm.fitQ z.high.x) = sx at *
  generalize Nm.ofQ (Nm.fitQ z.low.y + Nm.fitQ z.high.y) = sy at *
  generalize Nm.ofQ (Nm.fitQ z.high.x + mkRat (1 + k) 3) = fx at *
  generalize Nm.ofQ (Nm.fitQ z.high.y + mkRat 0 1) = fy at *
  generalize Q (1 + k) 3 = qa at *
  generalize Q 0 1 = qb at *
  obtain ⟨arms, walls, parts, slots, gates, walk⟩ := w
  obtain ⟨tick, sarms, sparts, people, sgates⟩ := s
  simp only at hg hgl hpe hz hob
  subst hpe
  have e0 : decide ((gates.length : Int) = 0) = false := decide_eq_false (by omega)
  have e1 : decide ((sgates.length : Int) = (gates.length : Int)) = true := decide_eq_true (by omega)
  simp only [ir_gantkeep2_MoveOpens, frOf, TT, II, OA, OB, OC, MM, LL, VV, FF, MG, LG, VG, FG]
  cases is
  · simp only [if_true] at ent1 ent2
    simp only [Wk.c, Wk.enc, Stt.c, Stt.enc, Vt.c, Vt.enc, vc, ams, wls, pts, sls, gts, asts, frs, vts, bls, rc, sb, ints, raws, zeroS, Int.natCast_zero, List.map_nil, List.map_cons, List.nil_append] at hbg ho2 ent1 ent2 a1 a2 b1 b2 hbe q1 q2 ad ⊢
    (repeat first | refine uA ?_ | (apply S.exit; exact rfl) | ((with_reducible refine And.intro ?_ ?_); focus first | omega | trivial | exact id | (intros; simp_all <;> omega)) | simp (disch := omega) only [go_sem, Nat.reduceBEq, Nat.reduceAdd, Nat.reduceLeDiff, Int.reduceToNat, Int.reducePow, ww] | (refine uD hbg ?_ ?_ ?_; exact tz hw; exact rfl))
    refine S.cond rfl (fun hc => by simp at hc) (fun hc => ?_)
    (repeat first | refine uA ?_ | (apply S.exit; exact rfl) | ((with_reducible refine And.intro ?_ ?_); focus first | omega | trivial | exact id | (intros; simp_all <;> omega)) | simp (disch := omega) only [go_sem, Nat.reduceBEq, Nat.reduceAdd, Nat.reduceLeDiff, Int.reduceToNat, Int.reducePow, ww, List.length_map, e0])
    refine S.cond rfl (fun hc => by simp at hc) (fun hc => ?_)
    (repeat first | refine uA ?_ | (apply S.exit; exact rfl) | ((with_reducible refine And.intro ?_ ?_); focus first | omega | trivial | exact id | (intros; simp_all <;> omega)) | simp (disch := omega) only [go_sem, Nat.reduceBEq, Nat.reduceAdd, Nat.reduceLeDiff, Int.reduceToNat, Int.reducePow, ww, List.length_map, List.length_set, e0, e1, hob, Option.map_some, decide_true] | (refine uD ho2 ?_ ?_ ?_; exact tz hw; exact rfl))
    refine S.cond rfl (fun hc => by simp at hc) (fun hc => ?_)
    (repeat first | refine uA ?_ | (apply S.exit; exact rfl) | ((with_reducible refine And.intro ?_ ?_); focus first | omega | trivial | exact id | (intros; simp_all <;> omega)) | simp (disch := omega) only [go_sem, Nat.reduceBEq, Nat.reduceAdd, Nat.reduceLeDiff, Int.reduceToNat, Int.reducePow, ww, List.length_map, hz, Option.map_some, Gt.enc, sb] | (refine uB hbe ?_ ?_; exact rfl) | (refine uB q1 ?_ ?_; exact rfl) | (refine uB q2 ?_ ?_; exact rfl) | (refine uD a1 ?_ ?_ ?_; exact tz hw; exact rfl) | (refine uD a2 ?_ ?_ ?_; exact tz hw; exact rfl) | (refine uD b1 ?_ ?_ ?_; exact tz hw; exact rfl) | (refine uD b2 ?_ ?_ ?_; exact tz hw; exact rfl) | (refine uD ent1 ?_ ?_ ?_; exact tz hw; exact rfl) | (refine uD ent2 ?_ ?_ ?_; exact tz hw; exact rfl) | (refine uD ad ?_ ?_ ?_; exact tz hw; exact rfl))
    refine S.cond rfl (fun hc => ?_) (fun hc => by simp at hc)
    (repeat first | refine uA ?_ | (apply S.exit; exact rfl) | ((with_reducible refine And.intro ?_ ?_); focus first | omega | trivial | exact id | (intros; simp_all <;> omega)) | simp (disch := omega) only [go_sem, Nat.reduceBEq, Nat.reduceAdd, Nat.reduceLeDiff, Int.reduceToNat, Int.reducePow, ww, decide_true])
    exact S.done (RetOK.out rfl (Imp.refl rfl) rfl)
  · simp only [if_false, Bool.true_eq_false] at ent1 ent2
    simp only [Wk.c, Wk.enc, Stt.c, Stt.enc, Vt.c, Vt.enc, vc, ams, wls, pts, sls, gts, asts, frs, vts, bls, rc, sb, ints, raws, zeroS, Int.natCast_zero, List.map_nil, List.map_cons, List.nil_append] at hbg ho2 ent1 ent2 a1 a2 b1 b2 hbe q1 q2 ad ⊢
    (repeat first | refine uA ?_ | (apply S.exit; exact rfl) | ((with_reducible refine And.intro ?_ ?_); focus first | omega | trivial | exact id | (intros; simp_all <;> omega)) | simp (disch := omega) only [go_sem, Nat.reduceBEq, Nat.reduceAdd, Nat.reduceLeDiff, Int.reduceToNat, Int.reducePow, ww] | (refine uD hbg ?_ ?_ ?_; exact tz hw; exact rfl))
    refine S.cond rfl (fun hc => by simp at hc) (fun hc => ?_)
    (repeat first | refine uA ?_ | (apply S.exit; exact rfl) | ((with_reducible refine And.intro ?_ ?_); focus first | omega | trivial | exact id | (intros; simp_all <;> omega)) | simp (disch := omega) only [go_sem, Nat.reduceBEq, Nat.reduceAdd, Nat.reduceLeDiff, Int.reduceToNat, Int.reducePow, ww, List.length_map, e0])
    refine S.cond rfl (fun hc => by simp at hc) (fun hc => ?_)
    (repeat first | refine uA ?_ | (apply S.exit; exact rfl) | ((with_reducible refine And.intro ?_ ?_); focus first | omega | trivial | exact id | (intros; simp_all <;> omega)) | simp (disch := omega) only [go_sem, Nat.reduceBEq, Nat.reduceAdd, Nat.reduceLeDiff, Int.reduceToNat, Int.reducePow, ww, List.length_map, List.length_set, e0, e1, hob, Option.map_some, decide_true] | (refine uD ho2 ?_ ?_ ?_; exact tz hw; exact rfl))
    refine S.cond rfl (fun hc => by simp at hc) (fun hc => ?_)
    (repeat first | refine uA ?_ | (apply S.exit; exact rfl) | ((with_reducible refine And.intro ?_ ?_); focus first | omega | trivial | exact id | (intros; simp_all <;> omega)) | simp (disch := omega) only [go_sem, Nat.reduceBEq, Nat.reduceAdd, Nat.reduceLeDiff, Int.reduceToNat, Int.reducePow, ww, List.length_map, hz, Option.map_some, Gt.enc, sb] | (refine uB hbe ?_ ?_; exact rfl) | (refine uB q1 ?_ ?_; exact rfl) | (refine uB q2 ?_ ?_; exact rfl) | (refine uD a1 ?_ ?_ ?_; exact tz hw; exact rfl) | (refine uD a2 ?_ ?_ ?_; exact tz hw; exact rfl) | (refine uD b1 ?_ ?_ ?_; exact tz hw; exact rfl) | (refine uD b2 ?_ ?_ ?_; exact tz hw; exact rfl) | (refine uD ent1 ?_ ?_ ?_; exact tz hw; exact rfl) | (refine uD ent2 ?_ ?_ ?_; exact tz hw; exact rfl) | (refine uD ad ?_ ?_ ?_; exact tz hw; exact rfl))
    refine S.cond rfl (fun hc => by simp at hc) (fun hc => ?_)
    (repeat first | refine uA ?_ | (apply S.exit; exact rfl) | ((with_reducible refine And.intro ?_ ?_); focus first | omega | trivial | exact id | (intros; simp_all <;> omega)) | simp (disch := omega) only [go_sem, Nat.reduceBEq, Nat.reduceAdd, Nat.reduceLeDiff, Int.reduceToNat, Int.reducePow, ww, decide_true, List.length_cons, List.length_nil, List.getElem?_cons_zero])
    rw [show (decide (((1 : Nat) : Int) = 1) && (px.neg == px.neg && py.neg == py.neg) && decide (((0 : Nat) : Int) = 0)) = true by simp]
    exact S.done (RetOK.out rfl (Imp.refl rfl) rfl)
end Go.Proofs.YtfadociodcmhfaaGreatDoor
namespace Go.Proofs.YtfadociodcmhfaaGreatDoor
set_option linter.all false
open Go Go.RowKit Go.ChangeShapes Go.WideShapes Eng
theorem bulk_cap {H : Type} {l : List (DataW H)} (hk : Rows.uptoSmall H l = true) : Rows.uptoBulkAll l ≤ 1048576 := of_decide_eq_true hk
theorem bulk_app {H : Type} (l r : List (DataW H)) : Rows.uptoBulkAll (l ++ r) = Rows.uptoBulkAll l + Rows.uptoBulkAll r := by
  induction l with
  | nil => simp [Rows.uptoBulkAll]
  | cons x l ih => simp only [List.cons_append, Rows.uptoBulkAll, ih]; omega
def noB : Nat → Prop := fun _ => False
section
variable {H : Type} {enc : TypeId × Value → H} {P : Program} {W : World}
def Opens (enc : TypeId × Value → H) (P : Program) (W : World) (t : TypeId) {α : Type} (tc : α → List C) (ok : α → Prop) (ms : α → Nat) : Prop :=
  ∀ (fuel : Nat) (cs : List Value) (x : DataW H × List MemPlace), DataW.trod enc P W 0 (fun _ => true) true fuel t cs = some x → ∃ a : α, FzL W noB (tc a) cs ∧ (∀ u ∈ cs, u.oneCell' = true) ∧ ok a ∧ ms a ≤ Rows.uptoBulk x.1
def I64 (n : Int) : Prop := -9223372036854775808 ≤ n ∧ n ≤ 9223372036854775807
theorem opens_int {t : TypeId} (ht : P.underlying t = some (.int .i64)) : Opens enc P W t (fun n : Int => [.v (.int .i64 n)]) I64 fun _ => 1 := by
  intro fuel cs x h
  obtain ⟨n, rfl, rfl, hw⟩ := DataW.trod_int ht h
  refine ⟨n, by simp [FzL, Fz], by simp [Value.oneCell'], ?_, by simp [Rows.uptoBulk]⟩
  simpa [Lit.wf, IntKind.min, IntKind.max, IntKind.signed, IntKind.bits, I64] using hw
theorem Opens.imp {t : TypeId} {α β : Type} {tc : α → List C} {ok : α → Prop} {ms : α → Nat} {tc' : β → List C} {ok' : β → Prop} {ms' : β → Nat} (h : Opens enc P W t tc ok ms)
    (f : ∀ a, ok a → ∃ b, tc a = tc' b ∧ ok' b ∧ ms' b ≤ ms a) : Opens enc P W t tc' ok' ms' := by
  intro fuel cs x hx
  obtain ⟨a, h0, h01, h1, h2⟩ := h fuel cs x hx
  obtain ⟨b, h3, h4, h5⟩ := f a h1
  exact ⟨b, by rw [← h3]; exact h0, h01, h4, Nat.le_trans h5 h2⟩
theorem FzA_cells {w : World} {O : Nat → Prop} {q : List C} {vs : List Value} {ad : Addr} {j : Nat} (hF : FzL w O q vs) (h1 : ∀ u ∈ vs, u.oneCell' = true) (hc : ∀ i v, vs[i]? = some v → w.cell? (ad.add (j + i)) = some v) : FzA w O q ad j := FzA.of hF h1 hc
theorem opens_slice {t e : TypeId} {α : Type} {tc : α → List C} {ok : α → Prop} {ms : α → Nat} {sz : Nat} (ht : P.underlying t = some (.slice e)) (hc : P.cellsOf e = sz) (hsz : 0 < sz) (hlen : ∀ a, (tc a).length = sz)
    (he : Opens enc P W e tc ok ms) : Opens enc P W t (fun xs : List α => [.sl sz (xs.map tc)]) (fun xs => ∀ a ∈ xs, ok a) fun xs => 1 + (xs.map ms).sum := by
  intro fuel cs x h
  rcases Deep.open_slice ht h with ⟨rfl, rfl⟩ | ⟨a, len, cap, m, n, D, Pl, rfl, _, hl, hm, hmm, rfl, hx⟩
  · refine ⟨[], ?_, by simp [Value.oneCell'], (fun a ha => by cases ha), by simp [Rows.uptoBulk]⟩
    simp only [FzL, Fz]
    exact ⟨_, _, rfl, ⟨none, 0, rfl, Nat.le_refl _, Nat.zero_le _, fun h => by simp at h⟩, rfl⟩
  · have hlm : len ≤ m := by rw [hmm]; split <;> omega
    have key : ∀ i, i < len → ∃ (y : α) (vs : List Value), W.cells? 0 (a.add (i * sz)) sz = some vs ∧ FzL W noB (tc y) vs ∧ (∀ u ∈ vs, u.oneCell' = true) ∧ ok y ∧ ms y ≤ Rows.uptoBulk (D i) := by
      intro i hi
      obtain ⟨cs', h1, h2⟩ := hx i (by omega)
      obtain ⟨y, h31, h32, h3, h4⟩ := he _ _ _ h2
      rw [hc] at h1
      exact ⟨y, cs', h1, h31, h32, h3, h4⟩
    have build : ∀ k, k ≤ len → ∃ xs : List α, xs.length = k ∧ (∀ i y, xs[i]? = some y → ∃ vs, W.cells? 0 (a.add (i * sz)) sz = some vs ∧ FzL W noB (tc y) vs ∧ (∀ u ∈ vs, u.oneCell' = true) ∧ ok y) ∧ (xs.map ms).sum ≤ Rows.uptoBulkAll ((List.range k).map D) := by
      intro k
      induction k with
      | zero => intro _; exact ⟨[], rfl, (fun i y h => by simp at h), by simp⟩
      | succ k ih =>
        intro hk
        obtain ⟨xs, h1, h2, h3⟩ := ih (by omega)
        obtain ⟨y, vs, h4, h41, h42, h5, h6⟩ := key k (by omega)
        refine ⟨xs ++ [y], by simp [h1], fun i z hz => ?_, ?_⟩
        · rcases Nat.lt_or_ge i xs.length with hlt | hge
          · rw [List.getElem?_append_left hlt] at hz
            exact h2 i z hz
          · rw [List.getElem?_append_right hge] at hz
            have : i - xs.length = 0 := by
              rcases Nat.eq_zero_or_pos (i - xs.length) with h0 | h0
              · exact h0
              · obtain ⟨d, hd⟩ : ∃ d, i - xs.length = d + 1 := ⟨i - xs.length - 1, by omega⟩
                rw [hd] at hz; simp at hz
            rw [this] at hz
            simp at hz
            subst hz
            have : i = k := by omega
            subst this
            exact ⟨vs, h4, h41, h42, h5⟩
        · rw [List.map_append, List.sum_append, List.range_succ, List.map_append, bulk_app]
          simp only [List.map_cons, List.map_nil, List.sum_cons, List.sum_nil, Rows.uptoBulkAll]
          omega
    obtain ⟨xs, h1, h2, h3⟩ := build len (Nat.le_refl _)
    have hcell : ∀ (i : Nat) (y : α), xs[i]? = some y → (tc y).length = sz ∧ FzA W noB (tc y) a (i * sz) := by
      intro i y hy
      obtain ⟨vs, h4, h41, h42, _⟩ := h2 i y hy
      obtain ⟨_, h5, h6⟩ := World.cells?_some h4
      refine ⟨hlen _, FzA_cells h41 h42 fun j v hv => ?_⟩
      have hj : j < sz := by
        have := (List.getElem?_eq_some_iff.1 hv).1
        rwa [h5] at this
      have h7 := h6 j hj
      rw [hv, Deep.add_add] at h7
      exact h7
    refine ⟨xs, ?_, by simp [Value.oneCell'], fun y hy => ?_, ?_⟩
    · simp only [FzL]
      refine ⟨_, _, rfl, ?_, rfl⟩
      simp only [Fz]
      refine ⟨some a, cap, by simp [h1], by simp; omega, hm, fun h0 => ⟨a, rfl, ?_, (fun h => h), FzE.of fun k q hq => ?_⟩⟩
      · have hi : 0 < xs.length := by simpa using h0
        obtain ⟨hq1, hq2⟩ := hcell 0 xs[0] (List.getElem?_eq_getElem hi)
        have h9 : 0 < (tc xs[0]).length := by omega
        match htc : tc xs[0], h9, hq2 with
        | c :: cs, _, hq2 =>
          simp only [FzA] at hq2
          obtain ⟨⟨v, hv, _⟩, _⟩ := hq2
          have h10 := block_lt_of_cell hv
          rwa [add_block] at h10
      · rw [List.getElem?_map] at hq
        obtain ⟨y, hy, rfl⟩ := Option.map_eq_some_iff.1 hq
        rw [Nat.zero_add]; exact hcell k y hy
    · obtain ⟨i, hi⟩ := List.mem_iff_getElem?.1 hy
      exact (h2 i y hi).choose_spec.2.2.2
    · simp only [Rows.uptoBulk]
      omega
theorem FzL.app {w : World} {O : Nat → Prop} : ∀ {cs ds : List C} {vs us : List Value}, FzL w O cs vs → FzL w O ds us → FzL w O (cs ++ ds) (vs ++ us)
  | [], ds, vs, us, h, k => by simp only [FzL] at h; subst h; simpa using k
  | c :: cs, ds, vs, us, h, k => by
    simp only [FzL] at h
    obtain ⟨y, ys, rfl, h1, h2⟩ := h
    exact ⟨y, ys ++ us, rfl, h1, FzL.app h2 k⟩
theorem law_post {f : Func} {s : ChangeSpec} {apart fresh handsOn again : Bool} {W' : World} {args : Array Value} {ds gs : List (DataW H)} {before : List MemPlace} {tb : TypeId} (hl : laidOutB P = true) (hpar : ∀ t ∈ f.params.toList, P.readableRec t = true ∧ t < P.types.size)
    (hrt : f.resultTypes = #[tb]) (htb : P.underlying tb = some .bool) (hv : s.vars = []) (hfn : s.fn H (ds ++ gs) = { results := [.lit (.bool true)], args := ds }) (hW : DataW.Whole enc P f.params.toList s.vars apart W args.toList ds gs before) (hb : Below W.heap.size W W') :
    s.post enc P f apart fresh handsOn again W args (.bool true) W' := by
  have hlt : ∀ p ∈ before, p.block < W.heap.size := fun p hp => hW.lt p hp
  obtain ⟨p, q, hA, hV, hps, hz, hn⟩ := id hW
  rw [hv] at hV
  obtain ⟨rfl, rfl⟩ := trodVars_none hV
  rw [List.append_nil] at hps
  subst hps
  have all : ∀ (sp : Nat → Bool) (ts : List TypeId) (vs : List Value) (es : List (DataW H)) (pl : List MemPlace), (∀ t ∈ ts, P.readableRec t = true ∧ t < P.types.size) → (∀ x ∈ pl, x.block < W.heap.size ∧ sp x.block = true) → DataW.TrodAll enc P W 0 (fun _ => true) true ts vs es pl → DataW.TrodAll enc P W' 0 sp true ts vs es pl := by
    intro sp ts
    induction ts with
    | nil =>
      intro vs es pl _ _ h
      cases vs <;> cases es <;> simp only [DataW.TrodAll] at h ⊢ <;> exact h
    | cons t ts ih =>
      intro vs es pl hts hpl h
      cases vs <;> cases es <;> simp only [DataW.TrodAll] at h ⊢
      obtain ⟨p1, p2, h1, h2, rfl⟩ := h
      refine ⟨p1, p2, ?_, ih _ _ _ (fun t ht => hts t (List.mem_cons_of_mem _ ht)) (fun x hx => hpl x (List.mem_append_right _ hx)) h2, rfl⟩
      exact WideElems.Trod_stays hl (hts t (List.mem_cons_self ..)).1 (hts t (List.mem_cons_self ..)).2 h1 (fun x hx => hb.same (hpl x (List.mem_append_left _ hx)).1) fun x hx => (hpl x (List.mem_append_left _ hx)).2
  have hres : ∀ (b : Nat) (sp : Nat → Bool) (hd : Bool), DataW.TrodAll enc P W' b sp hd f.resultTypes.toList ((Value.bool true).resultList f.resultTypes.size) (s.fn H (ds ++ [])).results [] := by
    intro b sp hd
    rw [hrt, hfn]
    exact trodAll_cons_mk (shut_bool htb true) trodAll_mk0
  have hargs : ∀ sp : Nat → Bool, (∀ p' ∈ before, sp p'.block = true) → DataW.TrodAll enc P W' 0 sp true f.params.toList args.toList (s.fn H (ds ++ [])).args before := fun sp hsp => by
    rw [hfn]
    exact all sp _ _ _ _ hpar (fun x hx => ⟨hlt x hx, hsp x hx⟩) hA
  have hvars : ∀ sp : Nat → Bool, DataW.TrodVars enc P W' sp s.vars (s.fn H (ds ++ [])).vars [] := fun sp => by rw [hv, hfn]; rfl
  have hold : ∀ p' ∈ before, (fun b => decide (b < W.heap.size)) p'.block = true := fun p' hp => by simpa using hlt p' hp
  refine ⟨ds, [], before, [], before, [], hW, hres _ _ _, hargs _ hold, hvars _, World.keptBut_mono (fun p' hp => ⟨hp, ?_⟩) (hb.frame (· ∈ before)), fun _ => ⟨ok_one hrt rfl (okWide_bool_mk htb _), _, _, ([] ++ before) ++ [], ⟨[] ++ before, [], trodAll_append (hargs _ (fun _ _ => rfl)) (hres _ _ _), hvars _, rfl, ?_, ?_⟩, ?_⟩⟩
  · exact Or.inr (by simpa using hp)
  · intro b off hp
    have hin : MemPlace.cell b off ∈ before := by simpa using hp
    rw [hb.frozen (hlt _ hin)]
    exact hz b off hin
  · intro ha
    have := hn ha
    simpa using this
  · intro p' hp _
    simpa using hp
end
end Go.Proofs.YtfadociodcmhfaaGreatDoor
namespace Go.Proofs.YtfadociodcmhfaaGreatDoor
set_option linter.all false
open Go Go.RowKit Go.ChangeShapes Go.WideShapes Go.ChangeAt Eng
set_option maxRecDepth 10000
theorem own_knob : ownKnob Tryz.prog.godebug = none := by kernel_rfl
theorem laid_out : laidOutB Tryz.prog = true := by kernel_rfl
theorem gDb : Tryz.prog.globalNamed "math/bits.deBruijn64tab" = some 3 := by kernel_rfl
theorem db_type : (Tryz.prog.globals[3]?).map (·.type) = some 283 := by kernel_rfl
theorem db_cells : Tryz.prog.cellsOf 283 = 64 := by kernel_rfl
theorem db_cell : Tryz.prog.cellsOf 5 = 1 := by kernel_rfl
theorem db_array : Tryz.prog.underlying 283 = some (.array 64 5) := by kernel_rfl
theorem db_int : Tryz.prog.underlying 5 = some (.int .u8) := by kernel_rfl
theorem db_data : (Rows.laid_math_bits_deBruijn64tab : DataW Unit) = Lib.tabData .u8 (Lib.deBruijn64tab.map fun n : Nat => (n : Int)) := by rfl
theorem wz_of {W : World} {rest : List (String × DataW Unit)} (h : laidMet Tryz.prog (("math/bits.deBruijn64tab", Rows.laid_math_bits_deBruijn64tab) :: rest) W) : Wz W := by
  rw [db_data] at h
  have ht := Lib.tabIs_of_head gDb db_type db_array db_int db_cell db_cells h
  intro j hj
  have := ht.cell gDb j (by rw [List.length_map]; exact hj)
  rw [this]
  congr 2
  rw [List.getD_eq_getElem?_getD, List.getD_eq_getElem?_getD, List.getElem?_map, List.getElem?_eq_getElem hj]
  rfl
section
variable {H : Type} {enc : TypeId × Value → H} {W : World}
theorem sum_ones {α : Type} : ∀ l : List α, l.length = (l.map fun _ => 1).sum
  | [] => rfl
  | x :: l => by simp only [List.length_cons, List.map_cons, List.sum_cons, ← sum_ones l]; omega
theorem int_cells : Tryz.prog.cellsOf 3 = 1 := by kernel_rfl
theorem o_ints : Opens enc Tryz.prog W 22 (fun l : List Int => [.sl 1 (l.map fun n => [.v (.int .i64 n)])]) (fun l => ∀ x ∈ l, I64 x) fun l => 1 + l.length :=
  (opens_slice Tryz.underlying22 int_cells (by decide) (fun _ => rfl) (opens_int Tryz.underlying3)).imp fun f hf => ⟨f, rfl, hf, by rw [← sum_ones]; exact Nat.le_refl _⟩
end
noncomputable def laidWorld (os : Os) : World := World.doorLaid Tryz.prog 400 os
end Go.Proofs.YtfadociodcmhfaaGreatDoor
