/- strings.Builder, as a variable of one's own with a row of bytes. -/
import Derived.Test.YtaicmkocmnikjaaDoorVc
import Derived.Test.YtaicmkocmnikjaaDoorIr1
import Derived.Shelf.Strings.BuilderK
import Derived.KernelRfl
import Derived.Deep.Heap
namespace Go.Proofs.YtaicmkocmnikjaaDoor
set_option linter.all false
open Go Go.RowKit Eng

set_option maxRecDepth 10000
set_option maxHeartbeats 1000000

section
open Go.Proofs
theorem c_used (b : Nat) (w : World) (h0 : w.cell? ⟨b, 0, none⟩ = some (.pointer (some ⟨b, 0, none⟩))) :
    Calls Tryd.prog 40 #[.pointer (some ⟨b, 0, none⟩)] w fun e w' => e = .returned (.tuple #[]) ∧ w' = w := by
  have hX : (Tryd.prog.info? 57).map (·.size) = some 2 := by kernel_rfl
  obtain ⟨j, hj, _⟩ := Option.map_eq_some_iff.1 hX
  go_enter Tryd.func40, Tryd.ntmps40
  go_wp2
  rw [Lib.run_neq_ptr_same w _ Tryd.underlying54 hj]
  go_wp2
  go_end0
  exact ⟨rfl, rfl⟩
theorem c_fresh (b : Nat) (w : World) (h0 : w.cell? ⟨b, 0, none⟩ = some (.pointer none)) (hsh : w.shape? b = some (57, 2)) (hfz : w.frozen? ⟨b, 0, none⟩ = false) :
    Calls Tryd.prog 40 #[.pointer (some ⟨b, 0, none⟩)] w fun e w' => e = .returned (.tuple #[]) ∧ w' = w.setCell ⟨b, 0, none⟩ (.pointer (some ⟨b, 0, none⟩)) := by
  have hX : (Tryd.prog.info? 57).map (·.size) = some 2 := by kernel_rfl
  have hL : liesAt Tryd.prog Tryd.prog.depth 57 (2 / Tryd.prog.cellsOf 57) 0 57 1 = true := by kernel_rfl
  obtain ⟨j, hj, hjs⟩ := Option.map_eq_some_iff.1 hX
  go_enter Tryd.func40, Tryd.ntmps40
  go_wp2
  rw [Lib.run_to_unsafe w ⟨b, 0, none⟩ Tryd.underlying54 (by exact (by kernel_rfl : _ = some TypeDesc.unsafePointer)) hj (by rw [hjs]; decide) hsh (Nat.zero_lt_succ 1)]
  simp only [Result.andThen]
  rw [Oper.upon_value]
  go_wp2
  rw [run_callFunc_extern Tryd.func47 (by kernel_rfl) (by kernel_rfl) (by kernel_rfl) (e := Extern.AbiNoEscape.same) (by kernel_rfl)]
  rw [Lib.run_noEscape]
  simp only [Result.andThen]
  rw [Oper.upon_value]
  go_wp2
  rw [Lib.run_from_unsafe w ⟨b, 0, none⟩ (by exact (by kernel_rfl : _ = some TypeDesc.unsafePointer)) Tryd.underlying54 hj hsh hL]
  simp only [Result.andThen]
  rw [Oper.upon_value]
  go_wp2
  go_end0
  exact ⟨rfl, rfl⟩
end

theorem h_copyCheck {E : Ctx} (hP : E.P = Tryd.prog) {rs : List Res} {k : Nat} {a b : C} (hk : rs[k]? = some (.box 57 [a, b])) (ha : a = .v (.pointer none) ∨ a = .bp k 0) :
    CallT E rs 40 [.bp k 0] (.tup []) (rs.set k (.box 57 [.bp k 0, b])) [] := by
  intro av ν w vs hR hav hF hD
  rw [hP]
  simp only [DenL, Den] at hD
  obtain ⟨y, ys, rfl, ⟨bb, hb, rfl⟩, rfl⟩ := hD
  obtain ⟨x, hx, b', vs', rfl, hD', h1, hh⟩ := hR.res k _ hk
  rw [hb] at hx
  cases hx
  simp only [DenL] at hD'
  obtain ⟨v0, ws, rfl, d0, v1, us, rfl, d1, rfl⟩ := hD'
  have hblt : bb < w.heap.size := (Array.getElem?_eq_some_iff.1 hh).1
  have c0 : w.cell? ⟨bb, 0, none⟩ = some v0 := by rw [Lib.cell_of_heap hh]; rfl
  have d0' : Den ν w (OO av rs ν) (.bp k 0) (.pointer (some ⟨bb, 0, none⟩)) := by simp only [Den]; exact ⟨bb, hb, rfl⟩
  rcases ha with rfl | rfl
  · simp only [Den] at d0
    subst d0
    refine (c_fresh bb w c0 (by simp [World.shape?, hh]) (Lib.frozen_of_heap hh 0)).mono ?_
    rintro e w' ⟨rfl, rfl⟩
    have hh' : (w.setCell ⟨bb, 0, none⟩ (.pointer (some ⟨bb, 0, none⟩))).heap[bb]? = some (.cells [.pointer (some ⟨bb, 0, none⟩), v1].toArray 57 (0, 0)) := by
      simp only [World.setCell, Array.getElem?_modify, if_true, hh]
      rfl
    have hup := hR.upd (w' := w.setCell ⟨bb, 0, none⟩ (.pointer (some ⟨bb, 0, none⟩))) (r' := .box 57 [.bp k 0, b]) hk hb
      ⟨rfl, rfl, rfl, by rw [Go.Deep.nblk_setCell]; exact Nat.le_refl _, fun q _ hn => Go.Deep.blk_setCell_other w _ _ q (fun e => hn (by simp only at e; subst e; rfl))⟩ (fun _ h => h) (fun hkp => ⟨bb, _, rfl, ⟨_, _, rfl, Den.keep hkp d0', _, _, rfl, Den.keep hkp d1, rfl⟩, (fun u hu => by
        rcases List.mem_cons.1 hu with rfl | hu
        · rfl
        · exact h1 u (List.mem_cons_of_mem _ hu)), hh'⟩)
    exact ⟨_, ν, rfl, hup.1, hup.2, ⟨[], by simp only [DenL], rfl⟩⟩
  · simp only [Den] at d0
    obtain ⟨b2, hb2, rfl⟩ := d0
    rw [hb] at hb2
    cases hb2
    refine (c_used bb w c0).mono ?_
    rintro e w' ⟨rfl, rfl⟩
    rw [set_self hk]
    exact ⟨_, ν, rfl, hR, Mv.of_below (Below.refl _ _), ⟨[], by simp only [DenL], rfl⟩⟩

section
open Go.Proofs
/-- String, of a builder that holds a byte at least -/
theorem c_string (b g cap : Nat) (p : Value) (cur : Array Value) (l : List UInt8) (w : World) (h0 : l ≠ []) (hbk : w.heap[b]? = some (.cells #[p, .slice (some ⟨g, 0, none⟩) l.length cap] 57 (0, 0))) (hg : w.heap[g]? = some (.cells cur 5 (0, 0)))
    (hnc : l.length ≤ cap) (hcm : cap ≤ maxLen) (hcs : cur.size = cap) (hcell : ∀ j x, l[j]? = some x → w.cell? ((⟨g, 0, none⟩ : Addr).add j) = some (.int .u8 x.toNat)) :
    Calls Tryd.prog 30 #[.pointer (some ⟨b, 0, none⟩)] w fun e w' => e = .returned (.string ⟨l.toArray⟩) ∧ w' = w.drew.freeze ⟨g, 0, none⟩ l.length := by
  have mixed : Tryd.prog.follows .mixedOrders = true := by kernel_rfl
  have hl0 : l.length ≠ 0 := by simpa using h0
  have c1 : w.drew.cell? ⟨b, 1, none⟩ = some (.slice (some ⟨g, 0, none⟩) l.length cap) := by
    have : w.drew.heap[b]? = some (.cells #[p, .slice (some ⟨g, 0, none⟩) l.length cap] 57 (0, 0)) := hbk
    rw [Lib.cell_of_heap this]; rfl
  have hSD : (Builtin.unsafeSliceData_ #[55] 73 #[.slice (some ⟨g, 0, none⟩) l.length cap]).run Tryd.prog w.drew = .ok (.pointer (some ⟨g, 0, none⟩)) w.drew :=
    Lib.run_unsafeSliceData_row _ _ _ _ _ _ (by omega)
  have hUS : (Builtin.unsafeString_ #[73, 3] 9 #[.pointer (some ⟨g, 0, none⟩), .int .i64 l.length]).run Tryd.prog w.drew = .ok (.string ⟨l.toArray⟩) (w.drew.freeze ⟨g, 0, none⟩ l.length) := by
    refine Lib.run_unsafeString_row w.drew 73 3 9 5 Tryd.underlying73 (by kernel_rfl) g cur.size (by have hg' : w.drew.heap[g]? = some (.cells cur 5 (0, 0)) := hg; simp [World.shape?, hg']) l h0 (by omega) (by unfold maxLen at hcm; omega) ?_
    intro j x hx
    exact hcell j x hx
  go_enter Tryd.func30, Tryd.ntmps30
  go_wp2
  go_region_o
  all_goals (go_wp2; go_ret; exact ⟨rfl, rfl⟩)
end

section
open Go.Proofs
theorem c_string_nil (b : Nat) (p : Value) (w : World) (hbk : w.heap[b]? = some (.cells #[p, .slice none 0 0] 57 (0, 0))) :
    Calls Tryd.prog 30 #[.pointer (some ⟨b, 0, none⟩)] w fun e w' => e = .returned (.string ⟨#[]⟩) ∧ w' = w.drew := by
  have mixed : Tryd.prog.follows .mixedOrders = true := by kernel_rfl
  have hUS : ∀ (W : World) (q : Option Addr), (Builtin.unsafeString_ #[73, 3] 9 #[.pointer q, .int .i64 0]).run Tryd.prog W = .ok (.string .empty) W := fun W q => Lib.run_unsafeString_none W _ _ _ q
  have hSD : (Builtin.unsafeSliceData_ #[55] 73 #[.slice none 0 0]).run Tryd.prog w.drew = .ok (.pointer none) w.drew := rfl
  have c1 : w.drew.cell? ⟨b, 1, none⟩ = some (.slice none 0 0) := by
    have : w.drew.heap[b]? = some (.cells #[p, .slice none 0 0] 57 (0, 0)) := hbk
    rw [Lib.cell_of_heap this]; rfl
  go_enter Tryd.func30, Tryd.ntmps30
  go_wp2
  go_region_o
  all_goals (go_wp2; go_ret; exact ⟨rfl, rfl⟩)
end

theorem bytes_vs {w : World} {O : Nat → Prop} : ∀ {l : List UInt8} {vs : List Value}, FzL w O (l.map byteC).flatten vs → vs = l.map fun b => Value.int .u8 b.toNat
  | [], vs, h => by simpa [FzL] using h
  | b :: l, vs, h => by
    simp only [List.map_cons, List.flatten_cons, byteC, List.singleton_append, List.cons_append, List.nil_append, FzL, Fz] at h
    obtain ⟨y, ys, rfl, rfl, h2⟩ := h
    rw [bytes_vs h2]
    rfl

theorem h_string_ne {E : Ctx} (hP : E.P = Tryd.prog) {rs : List Res} {k m : Nat} {a : C} {l : List UInt8} (hk : rs[k]? = some (.box 57 [a, .rv m])) (hm : rs[m]? = some (.row 5 1 (l.map byteC))) (hl : l ≠ []) :
    CallT E rs 30 [.bp k 0] (.v (.string ⟨l.toArray⟩)) (rs.set m .gone) [] := by
  intro av ν w vs hR hav hF hD
  rw [hP]
  simp only [DenL, Den] at hD
  obtain ⟨y, ys, rfl, ⟨bb, hb, rfl⟩, rfl⟩ := hD
  obtain ⟨x, hx, b', vs', rfl, hD', h1, hh⟩ := hR.res k _ hk
  rw [hb] at hx
  cases hx
  simp only [DenL, Den] at hD'
  obtain ⟨v0, ws, rfl, d0, v1, us, rfl, ⟨hv1, _⟩, rfl⟩ := hD'
  obtain ⟨x, hx, hlen, vs, hFz, h2, hrow⟩ := hR.res m _ hm
  rw [hv1] at hx
  cases hx
  have hvs := bytes_vs hFz
  subst hvs
  have hrow' := hrow
  have hlp : l.length ≠ 0 := by simpa using hl
  rcases hrow.2 with ⟨h0, _⟩ | ⟨g, cap, cur, rfl, hc0, hg, hnc, hcm, hcs, ht⟩
  · simp at h0; exact absurd h0 hl
  rw [List.length_map] at hh hrow' hnc hv1
  refine (c_string bb g cap v0 cur l w hl hh hg hnc hcm (by simpa using hcs) (fun j x hj => hrow'.cells j _ (by simp [hj]))).mono ?_
  rintro e w' ⟨rfl, rfl⟩
  have hup := hR.upd (w' := w.drew.freeze ⟨g, 0, none⟩ l.length) (r' := .gone) hm hv1
    ⟨by unfold World.freeze; rw [if_neg hlp]; rfl, by unfold World.freeze; rw [if_neg hlp]; rfl, by unfold World.freeze; rw [if_neg hlp]; rfl, by unfold World.freeze; rw [if_neg hlp]; simp, fun q _ hn => by
      have hne : g ≠ q := fun e => hn (by subst e; simp only [fp, blockOf]; rw [if_neg (by omega)])
      unfold World.freeze; rw [if_neg hlp]; simp [Array.getElem?_modify, hne]; rfl⟩ (fun _ h => h.elim) (fun _ => trivial)
  exact ⟨_, ν, rfl, hup.1, hup.2, by simp only [Den]⟩

theorem h_writeString {E : Ctx} (hP : E.P = Tryd.prog) {rs : List Res} {k m : Nat} {a : C} {es : List (List C)} {s : ByteArray} (hk : rs[k]? = some (.box 57 [a, .rv m])) (hm : rs[m]? = some (.row 5 1 es)) (hkm : k ≠ m) (ha : a = .v (.pointer none) ∨ a = .bp k 0)
    (hlen : es.length + s.size ≤ 140737488355328) :
    ∃ rs', rs' = (purgeRs [m] ((rs.set k (.box 57 [.bp k 0, .rv m])).set m (.row 5 1 (es ++ s.data.toList.map byteC)))).set k (.box 57 [.bp k 0, .rv m]) ∧
      CallT E rs 28 [.bp k 0, .v (.string s)] (.tup [.v (.int .i64 s.size), .v .nilIface]) rs' [m] := by
  refine ⟨_, rfl, ?_⟩
  obtain ⟨P, eff0, N0, w0, own0, av0, nu0, pk0⟩ := E
  simp only at hP
  subst hP
  refine CallT.of (E := ⟨Tryd.prog, eff0, N0, w0, own0, av0, nu0, pk0⟩) fn_strings_Builder_WriteString ok_strings_Builder_WriteString (by exact Nat.le_of_ble_eq_true rfl) fun w own av ν hν => ?_
  have hkl : k < rs.length := (List.getElem?_eq_some_iff.1 hk).1
  have hml : m < rs.length := (List.getElem?_eq_some_iff.1 hm).1
  have hkb : (k == m) = false := by simpa using hkm
  have e1 : (rs.set k (.box 57 [.bp k 0, .rv m]))[k]? = some (.box 57 [.bp k 0, .rv m]) := by rw [List.getElem?_set_self hkl]
  have e2 : (rs.set k (.box 57 [.bp k 0, .rv m]))[m]? = some (.row 5 1 es) := by rw [List.getElem?_set_ne hkm]; exact hm
  have e3 : ∀ Y, ((rs.set k (.box 57 [.bp k 0, .rv m])).set m Y)[k]? = some (.box 57 [.bp k 0, .rv m]) := fun Y => by rw [List.getElem?_set_ne (Ne.symm hkm)]; exact e1
  simp only [ir_strings_Builder_WriteString, frOf]
  (repeat (first | refine S.seq ?_ | refine S.block ?_ | refine S.blk ?_ | refine S.skip ?_ | refine S.exit rfl ?_ | (refine S.reg ?_; (simp only [go_sem, Nat.reduceBEq, Nat.reduceAdd, Nat.reduceMul, Nat.reduceSub, Nat.reduceLeDiff, Nat.reduceEqDiff, reduceCtorEq, Int.reduceToNat, Int.reduceLE, Int.reduceLT, Int.reduceNeg, Nat.reducePow, Int.reducePow, false_imp_iff, Nat.min_eq_left, Nat.min_eq_right, hk, hm]; (try (simp (disch := omega) only [Eng.wrap_i64]; (try simp only [go_sem, Nat.reduceBEq, Nat.reduceAdd, Nat.reduceMul, Nat.reduceSub, Nat.reduceLeDiff, Nat.reduceEqDiff, reduceCtorEq, Int.reduceToNat, Int.reduceLE, Int.reduceLT, Int.reduceNeg, Nat.reducePow, Int.reducePow, false_imp_iff, Nat.min_eq_left, Nat.min_eq_right, hk, hm]))); (repeat ((with_reducible refine And.intro ?_ ?_); (focus first | exact True.intro | rfl | exact fun h => h | omega | assumption | decide | (intro h; (try simp only [decide_eq_true_eq, Bool.and_eq_true, Bool.or_eq_true, Bool.not_eq_true', decide_eq_false_iff_not] at h); omega) | (intro h; simp [h]; done) | (intro h h2; simp [h, h2]; done) | (intro h h2 h3; simp [h, h2, h3]; done)))))) | (refine S.regd [] True.intro ?_; (simp only [go_sem, Nat.reduceBEq, Nat.reduceAdd, Nat.reduceMul, Nat.reduceSub, Nat.reduceLeDiff, Nat.reduceEqDiff, reduceCtorEq, Int.reduceToNat, Int.reduceLE, Int.reduceLT, Int.reduceNeg, Nat.reducePow, Int.reducePow, false_imp_iff, Nat.min_eq_left, Nat.min_eq_right, hk, hm]; (try (simp (disch := omega) only [Eng.wrap_i64]; (try simp only [go_sem, Nat.reduceBEq, Nat.reduceAdd, Nat.reduceMul, Nat.reduceSub, Nat.reduceLeDiff, Nat.reduceEqDiff, reduceCtorEq, Int.reduceToNat, Int.reduceLE, Int.reduceLT, Int.reduceNeg, Nat.reducePow, Int.reducePow, false_imp_iff, Nat.min_eq_left, Nat.min_eq_right, hk, hm]))); (repeat ((with_reducible refine And.intro ?_ ?_); (focus first | exact True.intro | rfl | exact fun h => h | omega | assumption | decide | (intro h; (try simp only [decide_eq_true_eq, Bool.and_eq_true, Bool.or_eq_true, Bool.not_eq_true', decide_eq_false_iff_not] at h); omega) | (intro h; simp [h]; done) | (intro h h2; simp [h, h2]; done) | (intro h h2 h3; simp [h, h2, h3]; done))))))))
  refine ⟨_, _, _, ?_, h_copyCheck rfl hk ha⟩
  ((simp only [go_sem, Nat.reduceBEq, Nat.reduceAdd, Nat.reduceMul, Nat.reduceSub, Nat.reduceLeDiff, Nat.reduceEqDiff, reduceCtorEq, Int.reduceToNat, Int.reduceLE, Int.reduceLT, Int.reduceNeg, Nat.reducePow, Int.reducePow, false_imp_iff, Nat.min_eq_left, Nat.min_eq_right, e1, e2, e3, hkb]; (try (simp (disch := omega) only [Eng.wrap_i64]; (try simp only [go_sem, Nat.reduceBEq, Nat.reduceAdd, Nat.reduceMul, Nat.reduceSub, Nat.reduceLeDiff, Nat.reduceEqDiff, reduceCtorEq, Int.reduceToNat, Int.reduceLE, Int.reduceLT, Int.reduceNeg, Nat.reducePow, Int.reducePow, false_imp_iff, Nat.min_eq_left, Nat.min_eq_right, e1, e2, e3, hkb]))); (repeat ((with_reducible refine And.intro ?_ ?_); (focus first | exact True.intro | rfl | exact fun h => h | omega | assumption | decide | (intro h; (try simp only [decide_eq_true_eq, Bool.and_eq_true, Bool.or_eq_true, Bool.not_eq_true', decide_eq_false_iff_not] at h); omega) | (intro h; simp [h]; done) | (intro h h2; simp [h, h2]; done) | (intro h h2 h3; simp [h, h2, h3]; done))))); (repeat (first | refine S.seq ?_ | refine S.block ?_ | refine S.blk ?_ | refine S.skip ?_ | refine S.exit rfl ?_ | (refine S.reg ?_; (simp only [go_sem, Nat.reduceBEq, Nat.reduceAdd, Nat.reduceMul, Nat.reduceSub, Nat.reduceLeDiff, Nat.reduceEqDiff, reduceCtorEq, Int.reduceToNat, Int.reduceLE, Int.reduceLT, Int.reduceNeg, Nat.reducePow, Int.reducePow, false_imp_iff, Nat.min_eq_left, Nat.min_eq_right, e1, e2, e3, hkb]; (try (simp (disch := omega) only [Eng.wrap_i64]; (try simp only [go_sem, Nat.reduceBEq, Nat.reduceAdd, Nat.reduceMul, Nat.reduceSub, Nat.reduceLeDiff, Nat.reduceEqDiff, reduceCtorEq, Int.reduceToNat, Int.reduceLE, Int.reduceLT, Int.reduceNeg, Nat.reducePow, Int.reducePow, false_imp_iff, Nat.min_eq_left, Nat.min_eq_right, e1, e2, e3, hkb]))); (repeat ((with_reducible refine And.intro ?_ ?_); (focus first | exact True.intro | rfl | exact fun h => h | omega | assumption | decide | (intro h; (try simp only [decide_eq_true_eq, Bool.and_eq_true, Bool.or_eq_true, Bool.not_eq_true', decide_eq_false_iff_not] at h); omega) | (intro h; simp [h]; done) | (intro h h2; simp [h, h2]; done) | (intro h h2 h3; simp [h, h2, h3]; done)))))) | (refine S.regd [] True.intro ?_; (simp only [go_sem, Nat.reduceBEq, Nat.reduceAdd, Nat.reduceMul, Nat.reduceSub, Nat.reduceLeDiff, Nat.reduceEqDiff, reduceCtorEq, Int.reduceToNat, Int.reduceLE, Int.reduceLT, Int.reduceNeg, Nat.reducePow, Int.reducePow, false_imp_iff, Nat.min_eq_left, Nat.min_eq_right, e1, e2, e3, hkb]; (try (simp (disch := omega) only [Eng.wrap_i64]; (try simp only [go_sem, Nat.reduceBEq, Nat.reduceAdd, Nat.reduceMul, Nat.reduceSub, Nat.reduceLeDiff, Nat.reduceEqDiff, reduceCtorEq, Int.reduceToNat, Int.reduceLE, Int.reduceLT, Int.reduceNeg, Nat.reducePow, Int.reducePow, false_imp_iff, Nat.min_eq_left, Nat.min_eq_right, e1, e2, e3, hkb]))); (repeat ((with_reducible refine And.intro ?_ ?_); (focus first | exact True.intro | rfl | exact fun h => h | omega | assumption | decide | (intro h; (try simp only [decide_eq_true_eq, Bool.and_eq_true, Bool.or_eq_true, Bool.not_eq_true', decide_eq_false_iff_not] at h); omega) | (intro h; simp [h]; done) | (intro h h2; simp [h, h2]; done) | (intro h h2 h3; simp [h, h2, h3]; done)))))))))
  refine ⟨.inl (by simp), ?_⟩
  (repeat (first | refine S.seq ?_ | refine S.block ?_ | refine S.blk ?_ | refine S.skip ?_ | refine S.exit rfl ?_ | (refine S.reg ?_; (simp only [go_sem, Nat.reduceBEq, Nat.reduceAdd, Nat.reduceMul, Nat.reduceSub, Nat.reduceLeDiff, Nat.reduceEqDiff, reduceCtorEq, Int.reduceToNat, Int.reduceLE, Int.reduceLT, Int.reduceNeg, Nat.reducePow, Int.reducePow, false_imp_iff, Nat.min_eq_left, Nat.min_eq_right]; (try (simp (disch := omega) only [Eng.wrap_i64]; (try simp only [go_sem, Nat.reduceBEq, Nat.reduceAdd, Nat.reduceMul, Nat.reduceSub, Nat.reduceLeDiff, Nat.reduceEqDiff, reduceCtorEq, Int.reduceToNat, Int.reduceLE, Int.reduceLT, Int.reduceNeg, Nat.reducePow, Int.reducePow, false_imp_iff, Nat.min_eq_left, Nat.min_eq_right]))); (repeat ((with_reducible refine And.intro ?_ ?_); (focus first | exact True.intro | rfl | exact fun h => h | omega | assumption | decide | (intro h; (try simp only [decide_eq_true_eq, Bool.and_eq_true, Bool.or_eq_true, Bool.not_eq_true', decide_eq_false_iff_not] at h); omega) | (intro h; simp [h]; done) | (intro h h2; simp [h, h2]; done) | (intro h h2 h3; simp [h, h2, h3]; done)))))) | (refine S.regd [] True.intro ?_; (simp only [go_sem, Nat.reduceBEq, Nat.reduceAdd, Nat.reduceMul, Nat.reduceSub, Nat.reduceLeDiff, Nat.reduceEqDiff, reduceCtorEq, Int.reduceToNat, Int.reduceLE, Int.reduceLT, Int.reduceNeg, Nat.reducePow, Int.reducePow, false_imp_iff, Nat.min_eq_left, Nat.min_eq_right]; (try (simp (disch := omega) only [Eng.wrap_i64]; (try simp only [go_sem, Nat.reduceBEq, Nat.reduceAdd, Nat.reduceMul, Nat.reduceSub, Nat.reduceLeDiff, Nat.reduceEqDiff, reduceCtorEq, Int.reduceToNat, Int.reduceLE, Int.reduceLT, Int.reduceNeg, Nat.reducePow, Int.reducePow, false_imp_iff, Nat.min_eq_left, Nat.min_eq_right]))); (repeat ((with_reducible refine And.intro ?_ ?_); (focus first | exact True.intro | rfl | exact fun h => h | omega | assumption | decide | (intro h; (try simp only [decide_eq_true_eq, Bool.and_eq_true, Bool.or_eq_true, Bool.not_eq_true', decide_eq_false_iff_not] at h); omega) | (intro h; simp [h]; done) | (intro h h2; simp [h, h2]; done) | (intro h h2 h3; simp [h, h2, h3]; done))))))))
  exact S.done (RetOK.own rfl)

theorem h_writeString0 {E : Ctx} (hP : E.P = Tryd.prog) {rs : List Res} {k : Nat} {a : C} {s : ByteArray} (hk : rs[k]? = some (.box 57 [a, .v (.slice none 0 0)])) (ha : a = .v (.pointer none) ∨ a = .bp k 0)
    (hlen : s.size ≤ 140737488355328) :
    CallT E rs 28 [.bp k 0, .v (.string s)] (.tup [.v (.int .i64 s.size), .v .nilIface])
      ((rs.set k (.box 57 [.bp k 0, .v (.slice none 0 0)]) ++ [Res.row 5 1 (s.data.toList.map byteC)]).set k (.box 57 [.bp k 0, .rv rs.length])) [] := by
  obtain ⟨P, eff0, N0, w0, own0, av0, nu0, pk0⟩ := E
  simp only at hP
  subst hP
  refine CallT.of (E := ⟨Tryd.prog, eff0, N0, w0, own0, av0, nu0, pk0⟩) fn_strings_Builder_WriteString ok_strings_Builder_WriteString (by exact Nat.le_of_ble_eq_true rfl) fun w own av ν hν => ?_
  have hkl : k < rs.length := (List.getElem?_eq_some_iff.1 hk).1
  have e1 : (rs.set k (.box 57 [.bp k 0, .v (.slice none 0 0)]))[k]? = some (.box 57 [.bp k 0, .v (.slice none 0 0)]) := by rw [List.getElem?_set_self hkl]
  have e2 : ∀ Y : List Res, (rs.set k (.box 57 [.bp k 0, .v (.slice none 0 0)]) ++ Y)[k]? = some (.box 57 [.bp k 0, .v (.slice none 0 0)]) := fun Y => by rw [List.getElem?_append_left (by simpa using hkl)]; exact e1
  simp only [ir_strings_Builder_WriteString, frOf]
  (repeat (first | refine S.seq ?_ | refine S.block ?_ | refine S.blk ?_ | refine S.skip ?_ | refine S.exit rfl ?_ | (refine S.reg ?_; (simp only [go_sem, Nat.reduceBEq, Nat.reduceAdd, Nat.reduceMul, Nat.reduceSub, Nat.reduceLeDiff, Nat.reduceEqDiff, reduceCtorEq, Int.reduceToNat, Int.reduceLE, Int.reduceLT, Int.reduceNeg, Nat.reducePow, Int.reducePow, false_imp_iff, Nat.min_eq_left, Nat.min_eq_right, hk]; (try (simp (disch := omega) only [Eng.wrap_i64]; (try simp only [go_sem, Nat.reduceBEq, Nat.reduceAdd, Nat.reduceMul, Nat.reduceSub, Nat.reduceLeDiff, Nat.reduceEqDiff, reduceCtorEq, Int.reduceToNat, Int.reduceLE, Int.reduceLT, Int.reduceNeg, Nat.reducePow, Int.reducePow, false_imp_iff, Nat.min_eq_left, Nat.min_eq_right, hk]))); (repeat ((with_reducible refine And.intro ?_ ?_); (focus first | exact True.intro | rfl | exact fun h => h | omega | assumption | decide | (intro h; (try simp only [decide_eq_true_eq, Bool.and_eq_true, Bool.or_eq_true, Bool.not_eq_true', decide_eq_false_iff_not] at h); omega) | (intro h; simp [h]; done) | (intro h h2; simp [h, h2]; done) | (intro h h2 h3; simp [h, h2, h3]; done)))))) | (refine S.regd [] True.intro ?_; (simp only [go_sem, Nat.reduceBEq, Nat.reduceAdd, Nat.reduceMul, Nat.reduceSub, Nat.reduceLeDiff, Nat.reduceEqDiff, reduceCtorEq, Int.reduceToNat, Int.reduceLE, Int.reduceLT, Int.reduceNeg, Nat.reducePow, Int.reducePow, false_imp_iff, Nat.min_eq_left, Nat.min_eq_right, hk]; (try (simp (disch := omega) only [Eng.wrap_i64]; (try simp only [go_sem, Nat.reduceBEq, Nat.reduceAdd, Nat.reduceMul, Nat.reduceSub, Nat.reduceLeDiff, Nat.reduceEqDiff, reduceCtorEq, Int.reduceToNat, Int.reduceLE, Int.reduceLT, Int.reduceNeg, Nat.reducePow, Int.reducePow, false_imp_iff, Nat.min_eq_left, Nat.min_eq_right, hk]))); (repeat ((with_reducible refine And.intro ?_ ?_); (focus first | exact True.intro | rfl | exact fun h => h | omega | assumption | decide | (intro h; (try simp only [decide_eq_true_eq, Bool.and_eq_true, Bool.or_eq_true, Bool.not_eq_true', decide_eq_false_iff_not] at h); omega) | (intro h; simp [h]; done) | (intro h h2; simp [h, h2]; done) | (intro h h2 h3; simp [h, h2, h3]; done))))))))
  refine ⟨_, _, _, ?_, h_copyCheck rfl hk ha⟩
  ((simp only [go_sem, Nat.reduceBEq, Nat.reduceAdd, Nat.reduceMul, Nat.reduceSub, Nat.reduceLeDiff, Nat.reduceEqDiff, reduceCtorEq, Int.reduceToNat, Int.reduceLE, Int.reduceLT, Int.reduceNeg, Nat.reducePow, Int.reducePow, false_imp_iff, Nat.min_eq_left, Nat.min_eq_right, e1, e2, List.length_set]; (try (simp (disch := omega) only [Eng.wrap_i64]; (try simp only [go_sem, Nat.reduceBEq, Nat.reduceAdd, Nat.reduceMul, Nat.reduceSub, Nat.reduceLeDiff, Nat.reduceEqDiff, reduceCtorEq, Int.reduceToNat, Int.reduceLE, Int.reduceLT, Int.reduceNeg, Nat.reducePow, Int.reducePow, false_imp_iff, Nat.min_eq_left, Nat.min_eq_right, e1, e2, List.length_set]))); (repeat ((with_reducible refine And.intro ?_ ?_); (focus first | exact True.intro | rfl | exact fun h => h | omega | assumption | decide | (intro h; (try simp only [decide_eq_true_eq, Bool.and_eq_true, Bool.or_eq_true, Bool.not_eq_true', decide_eq_false_iff_not] at h); omega) | (intro h; simp [h]; done) | (intro h h2; simp [h, h2]; done) | (intro h h2 h3; simp [h, h2, h3]; done))))); (repeat (first | refine S.seq ?_ | refine S.block ?_ | refine S.blk ?_ | refine S.skip ?_ | refine S.exit rfl ?_ | (refine S.reg ?_; (simp only [go_sem, Nat.reduceBEq, Nat.reduceAdd, Nat.reduceMul, Nat.reduceSub, Nat.reduceLeDiff, Nat.reduceEqDiff, reduceCtorEq, Int.reduceToNat, Int.reduceLE, Int.reduceLT, Int.reduceNeg, Nat.reducePow, Int.reducePow, false_imp_iff, Nat.min_eq_left, Nat.min_eq_right, e1, e2, List.length_set]; (try (simp (disch := omega) only [Eng.wrap_i64]; (try simp only [go_sem, Nat.reduceBEq, Nat.reduceAdd, Nat.reduceMul, Nat.reduceSub, Nat.reduceLeDiff, Nat.reduceEqDiff, reduceCtorEq, Int.reduceToNat, Int.reduceLE, Int.reduceLT, Int.reduceNeg, Nat.reducePow, Int.reducePow, false_imp_iff, Nat.min_eq_left, Nat.min_eq_right, e1, e2, List.length_set]))); (repeat ((with_reducible refine And.intro ?_ ?_); (focus first | exact True.intro | rfl | exact fun h => h | omega | assumption | decide | (intro h; (try simp only [decide_eq_true_eq, Bool.and_eq_true, Bool.or_eq_true, Bool.not_eq_true', decide_eq_false_iff_not] at h); omega) | (intro h; simp [h]; done) | (intro h h2; simp [h, h2]; done) | (intro h h2 h3; simp [h, h2, h3]; done)))))) | (refine S.regd [] True.intro ?_; (simp only [go_sem, Nat.reduceBEq, Nat.reduceAdd, Nat.reduceMul, Nat.reduceSub, Nat.reduceLeDiff, Nat.reduceEqDiff, reduceCtorEq, Int.reduceToNat, Int.reduceLE, Int.reduceLT, Int.reduceNeg, Nat.reducePow, Int.reducePow, false_imp_iff, Nat.min_eq_left, Nat.min_eq_right, e1, e2, List.length_set]; (try (simp (disch := omega) only [Eng.wrap_i64]; (try simp only [go_sem, Nat.reduceBEq, Nat.reduceAdd, Nat.reduceMul, Nat.reduceSub, Nat.reduceLeDiff, Nat.reduceEqDiff, reduceCtorEq, Int.reduceToNat, Int.reduceLE, Int.reduceLT, Int.reduceNeg, Nat.reducePow, Int.reducePow, false_imp_iff, Nat.min_eq_left, Nat.min_eq_right, e1, e2, List.length_set]))); (repeat ((with_reducible refine And.intro ?_ ?_); (focus first | exact True.intro | rfl | exact fun h => h | omega | assumption | decide | (intro h; (try simp only [decide_eq_true_eq, Bool.and_eq_true, Bool.or_eq_true, Bool.not_eq_true', decide_eq_false_iff_not] at h); omega) | (intro h; simp [h]; done) | (intro h h2; simp [h, h2]; done) | (intro h h2 h3; simp [h, h2, h3]; done)))))))))
  exact S.done (RetOK.own rfl)
end Go.Proofs.YtaicmkocmnikjaaDoor
