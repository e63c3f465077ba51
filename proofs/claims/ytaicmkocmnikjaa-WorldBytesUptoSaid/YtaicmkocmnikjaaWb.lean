/- package world: the writer. -/
import Derived.Test.YtaicmkocmnikjaaData
import Derived.Test.YtaicmkocmnikjaaIrB
namespace Go.Proofs.Ytaicmkocmnikjaa
set_option linter.all false
open Go Go.RowKit Eng

/-- the writer, what it has written -/
def writer (xs : List UInt8) : Own where
  Ok x w := ∃ b v, x = .pointer (some ⟨b, 0, none⟩) ∧ w.heap[b]? = some (.cells #[v] 38 (0, 0)) ∧ w.ownsRow 0 5 1 v xs.length (xs.map fun c => Value.int .u8 c.toNat) ∧ blockOf v ≠ some b
  fp x w c := ∃ b v, x = .pointer (some ⟨b, 0, none⟩) ∧ w.heap[b]? = some (.cells #[v] 38 (0, 0)) ∧ (c = b ∨ blockOf v = some c)
  lt := by
    rintro x w c ⟨b, v, rfl, h1, h2, h3⟩ ⟨b', v', e, h1', h4⟩
    injection e with e; injection e with e; injection e with e
    subst e
    rw [h1] at h1'
    injection h1' with h1'; injection h1' with h1'
    have : v = v' := by simpa using h1'
    subst this
    rcases h4 with rfl | h4
    · exact (Array.getElem?_eq_some_iff.1 h1).1
    · rcases h2.2 with ⟨rfl, _⟩ | ⟨g, cap, cur, rfl, _, hg, _⟩
      · simp [blockOf] at h4
      · simp only [blockOf, Option.some.injEq] at h4
        subst h4
        exact (Array.getElem?_eq_some_iff.1 hg).1
  stable := by
    rintro x w w' ⟨b, v, rfl, h1, h2, h3⟩ hb hs
    have hbb := hb b ⟨b, v, rfl, h1, .inl rfl⟩
    refine ⟨⟨b, v, rfl, hbb.trans h1, row_kept h2 fun c hc => hb c ⟨b, v, rfl, h1, .inr hc⟩, h3⟩, ?_⟩
    rintro c ⟨b', v', e, h1', h4⟩
    injection e with e; injection e with e; injection e with e
    subst e
    exact ⟨b, v', rfl, hbb.symm.trans h1', h4⟩
  one := by
    rintro x w ⟨b, v, rfl, _⟩
    rfl

def byteCells (xs : List UInt8) : List SV := (xs.map fun c => Value.int .u8 c.toNat).map .v

theorem owns_B {B B' : Nat} {e : TypeId} {sz n : Nat} {x : Value} {vs : List Value} {w : World} (h : w.ownsRow B e sz x n vs) (hb : ∀ b, blockOf x = some b → B' ≤ b) : w.ownsRow B' e sz x n vs := by
  obtain ⟨h3, h4⟩ := h
  refine ⟨h3, ?_⟩
  rcases h4 with h4 | ⟨g, cap, cur, rfl, hg, rest⟩
  · exact .inl h4
  · exact .inr ⟨g, cap, cur, rfl, hb g rfl, rest⟩

/-- the writer's parts: its one cell, its row -/
theorem S.unpackW {E : Ctx} {Q : Exit → Act → World → Prop} {xs : List UInt8} {fr : List (Nat × SV)} {rs : List Res} {sl : List Sli} {sn : List Snap} {k : List It} (i t : Nat) (hi : rs[i]? = some (.obj (writer xs))) (ht : slot fr t = .rv i)
    (h : S E Q ⟨(t, .bp i 0) :: fr, rs.set i (.box 38 [.rv rs.length]) ++ [.row 5 1 xs.length (byteCells xs)], sl, sn⟩ k) :
    S E Q ⟨fr, rs, sl, sn⟩ k := by
  intro ν a w hG
  obtain ⟨x, hx, ⟨b, v, rfl, h1, h2, h3⟩, hB⟩ := hG.res i _ hi
  have hl : ν.length = rs.length := hG.len
  have hone : v.oneCell' = true := by rcases h2.2 with ⟨rfl, _⟩ | ⟨g, cap, cur, rfl, _⟩ <;> rfl
  have hil : i < ν.length := (List.getElem?_eq_some_iff.1 hx).1
  have hxe : (ν ++ [v])[i]? = some (.pointer (some ⟨b, 0, none⟩)) := by rw [List.getElem?_append_left hil]; exact hx
  have hG' := hG.split (r1 := .box 38 [.rv rs.length]) (r2 := .row 5 1 xs.length (byteCells xs)) hi hx
    ⟨b, [v], rfl, hB b ⟨b, v, rfl, h1, .inl rfl⟩, ⟨v, [], rfl, by show (ν ++ [v])[rs.length]? = some v; rw [← hl]; simp, rfl⟩, by simpa using hone, h1⟩
    ⟨_, DenL.vs _, (by intro u hu; obtain ⟨c, _, rfl⟩ := List.mem_map.1 hu; rfl), owns_B h2 fun c hc => hB c ⟨b, v, rfl, h1, .inr hc⟩⟩
    (fun c hc => by simp only [fp, blockOf, Option.some.injEq] at hc; subst hc; exact ⟨b, v, rfl, h1, .inl rfl⟩)
    (fun c hc => ⟨b, v, rfl, h1, .inr hc⟩)
    (fun c hc hc' => by simp only [fp, blockOf, Option.some.injEq] at hc; subst hc; exact h3 hc')
  refine h _ a w (hG'.slot_ ?_)
  have := hG.fr t
  rw [ht] at this
  simp only [Den] at this ⊢
  refine ⟨b, hxe, ?_⟩
  show a.tmps.getD t undef = _
  rw [hx] at this
  injection this with this
  exact this.symm

/-- the parts make a writer again -/
theorem S.packW {E : Ctx} {Q : Exit → Act → World → Prop} {ys : List UInt8} {fr : List (Nat × SV)} {rs : List Res} {sl : List Sli} {sn : List Snap} {k : List It} {n : Nat} {cs : List SV} (i m t : Nat) (hi : rs[i]? = some (.box 38 [.rv m])) (hm : rs[m]? = some (.row 5 1 n cs))
    (ht : slot fr t = .bp i 0) (hn : n = ys.length) (hc : cs = byteCells ys)
    (h : S E Q ⟨(t, .rv i) :: fr, (rs.set i (.obj (writer ys))).set m .gone, sl, sn⟩ k) : S E Q ⟨fr, rs, sl, sn⟩ k := by
  subst hn hc
  intro ν a w hG
  obtain ⟨y0, hy0, b, vs, rfl, hb, hD, _, hh⟩ := hG.res i _ hi
  obtain ⟨v, hv, us, hDu, _, hown⟩ := hG.res m _ hm
  have := DenL.vs_iff hDu
  subst this
  simp only [DenL, Den] at hD
  obtain ⟨y, ys', rfl, h1, rfl⟩ := hD
  rw [hv] at h1
  injection h1 with h1
  subst h1
  have him : i ≠ m := by
    rintro rfl
    rw [hi] at hm
    cases hm
  have only : ∀ c, (writer ys).fp (.pointer (some ⟨b, 0, none⟩)) w c → c = b ∨ blockOf v = some c := by
    rintro c ⟨b', v', e, h1', h4⟩
    injection e with e; injection e with e; injection e with e
    subst e
    rw [hh] at h1'
    injection h1' with h1'; injection h1' with h1'
    have : v = v' := by simpa using h1'
    subst this
    exact h4
  refine h ν a w ((hG.join (r := .obj (writer ys)) him hi hm hy0 hv ⟨⟨b, v, rfl, hh, owns_B hown fun c _ => Nat.zero_le c, fun he => ?_⟩, fun c hc => ?_⟩ fun c hc => ?_).slot_ ?_)
  · exact hG.dis i m _ _ _ _ b him hi hm hy0 hv rfl he
  · rcases only c hc with rfl | hc
    · exact hb
    · rcases hown.2 with ⟨rfl, _⟩ | ⟨g, cap, cur, rfl, hg, _⟩
      · cases hc
      · simp only [blockOf, Option.some.injEq] at hc
        subst hc
        exact hg
  · rcases only c hc with rfl | hc
    · exact .inl rfl
    · exact .inr hc
  · have := hG.fr t
    rw [ht] at this
    simp only [Den] at this ⊢
    obtain ⟨b', hb', e⟩ := this
    rw [hy0] at hb'
    injection hb' with hb'
    rw [hy0, hb']
    exact congrArg some e.symm

/-- a new writer -/
theorem S.packW0 {E : Ctx} {Q : Exit → Act → World → Prop} {fr : List (Nat × SV)} {rs : List Res} {sl : List Sli} {sn : List Snap} {k : List It} (i t : Nat) (hi : rs[i]? = some (.box 38 [.v (.slice none 0 0)]))
    (ht : slot fr t = .bp i 0) (h : S E Q ⟨(t, .rv i) :: fr, rs.set i (.obj (writer [])), sl, sn⟩ k) : S E Q ⟨fr, rs, sl, sn⟩ k := by
  intro ν a w hG
  obtain ⟨y0, hy0, b, vs, rfl, hb, hD, _, hh⟩ := hG.res i _ hi
  simp only [DenL, Den] at hD
  obtain ⟨y, ys', rfl, rfl, rfl⟩ := hD
  have only : ∀ c, (writer []).fp (.pointer (some ⟨b, 0, none⟩)) w c → c = b := by
    rintro c ⟨b', v', e, h1', h4⟩
    injection e with e; injection e with e; injection e with e
    subst e
    rw [hh] at h1'
    injection h1' with h1'; injection h1' with h1'
    have : Value.slice none 0 0 = v' := by simpa using h1'
    subst this
    rcases h4 with h4 | h4
    · exact h4
    · cases h4
  have hr : ResOK E.B ν sl w (.pointer (some ⟨b, 0, none⟩)) (.obj (writer [])) := by
    refine ⟨⟨b, .slice none 0 0, rfl, hh, ⟨by simp, .inl ⟨rfl, rfl⟩⟩, fun he => by cases he⟩, fun c hc => ?_⟩
    rw [only c hc]; exact hb
  refine h ν a w ((hG.upd (r' := .obj (writer [])) hi hy0 ⟨⟨rfl, rfl, rfl, Nat.le_refl _, fun _ _ => rfl⟩, fun _ _ _ => rfl⟩ (fun c hc => .inl (by rw [only c hc]; rfl)) hr).slot_ ?_)
  have := hG.fr t
  rw [ht] at this
  simp only [Den] at this ⊢
  obtain ⟨b', hb', e⟩ := this
  rw [hy0] at hb'
  injection hb' with hb'
  show ν[i]? = _
  rw [hy0, hb']
  exact congrArg some e.symm

/-- what a method of the writer leaves -/
def WPost (xs ys : List UInt8) (x : Value) (w : World) (r : Value) (e : Ending) (w' : World) : Prop :=
  e = .returned r ∧ (writer ys).Ok x w' ∧ Turned w w' ((writer xs).fp x w) ∧ ∀ b, (writer ys).fp x w' b → (writer xs).fp x w b ∨ w.heap.size ≤ b

/-- a method's end -/
theorem end_writer {P : Program} {N : Nat} {w0 : World} {x : Value} {xs ys : List UInt8} {fr : List (Nat × SV)} {rss : List Res} {sl : List Sli} {sns : List Snap} :
    S ⟨P, N, 0, w0, some x⟩ (Fin [] (WPost xs ys x w0 (.tuple #[]))) ⟨fr, .obj (writer ys) :: rss, sl, ⟨fun b => b < w0.heap.size ∧ ¬ (writer xs).fp x w0 b, w0⟩ :: sns⟩ [] := by
  refine S.end_ (retO (.tuple #[]) (fun ν a w hG => rfl) fun ν a w hG => ?_)
  have hx : ν[0]? = some x := hG.fx x rfl
  obtain ⟨y0, hy0, hok, _⟩ := hG.res 0 _ rfl
  rw [hx] at hy0
  injection hy0 with hy0
  subst hy0
  exact ⟨hok, fun b hb => ⟨0, _, _, rfl, hx, hb⟩⟩

theorem natB_lt {u : Nat} (h : u < 128) : natB u = [UInt8.ofNat u] := by unfold natB; rw [if_pos h]
theorem natB_ge {u : Nat} (h : ¬ u < 128) : natB u = UInt8.ofNat (u % 128 + 128) :: natB (u / 128) := by rw [natB, if_neg h]

theorem natB_len_le (u : Nat) : ∀ n, u < 128 ^ n → 0 < n → (natB u).length ≤ n := by
  induction u using natB.induct with
  | case1 u h => intro n _ hn; rw [natB_lt h]; simp; omega
  | case2 u h ih =>
    intro n hu hn
    rw [natB_ge h]
    cases n with
    | zero => omega
    | succ n =>
      cases n with
      | zero => simp at hu; omega
      | succ n =>
        have := ih (n + 1) (by rw [Nat.pow_succ] at hu; omega) (by omega)
        simpa using this
theorem natB_len (u : Nat) (h : u < 18446744073709551616) : (natB u).length ≤ 10 := natB_len_le u 10 (Nat.lt_of_lt_of_le h (by decide)) (by decide)
theorem intB_len (n : Int) : (intB n).length ≤ 10 := natB_len _ (by rw [wrap_u64_mod]; omega)

theorem u8_low (u : Nat) : IntKind.u8.wrap (IntKind.u8.wrap ((u : Int).tmod 128) + 128) = ((UInt8.ofNat (u % 128 + 128)).toNat : Int) := by
  rw [wrap_u8_mod, wrap_u8_mod, Int.tmod_eq_emod_of_nonneg (by omega), UInt8.toNat_ofNat']
  omega
theorem u8_one (u : Nat) (h : u < 128) : IntKind.u8.wrap (u : Int) = ((UInt8.ofNat u).toNat : Int) := by
  rw [wrap_u8_mod, UInt8.toNat_ofNat']
  omega
theorem u64_quo {u : Nat} (h : u < 18446744073709551616) : IntKind.u64.wrap ((u : Int).tdiv 128) = ((u / 128 : Nat) : Int) := by
  rw [wrap_u64_mod, Int.tdiv_eq_ediv_of_nonneg (by omega)]
  omega

theorem w_nat (n : Int) (xs : List UInt8) (x : Value) (w : World) (hx : (writer xs).Ok x w) (hl : (xs ++ intB n).length ≤ 140737488355328) :
    Calls Try.prog 9 #[x, .int .i64 n] w (WPost xs (xs ++ intB n) x w (.tuple #[])) := by
  refine enterO (args := [x, .int .i64 n]) fn_world_writer_nat ok_world_writer_nat (writer xs) x hx [.rv 0, .v (.int .i64 n)] [] (by simp [DenL, Den]) (by simp [ir_world_writer_nat]) (by simp) ?_
  simp only [ir_world_writer_nat, frOf]
  refine S.unpackW 0 0 rfl rfl ?_
  have hu0 : 0 ≤ IntKind.u64.wrap n ∧ IntKind.u64.wrap n < 18446744073709551616 := by rw [wrap_u64_mod]; omega
  have hint : intB n = natB (IntKind.u64.wrap n).toNat := rfl
  rw [hint] at hl ⊢
  obtain ⟨u0, hu⟩ : ∃ u0 : Nat, IntKind.u64.wrap n = (u0 : Int) := ⟨(IntKind.u64.wrap n).toNat, by omega⟩
  rw [hu] at hu0 hl ⊢
  rw [Int.toNat_natCast] at hl ⊢
  simp only [List.set_cons_zero, List.length_cons, List.length_nil, List.cons_append, List.nil_append]
  (repeat (first | refine S.seq ?_ | refine S.block ?_ | refine S.blk ?_ | refine S.skip ?_ | refine S.exit rfl ?_ | (refine S.reg ?_; simp only [go_sem, Nat.reduceBEq, Nat.reduceAdd, Nat.reduceMul, Nat.reduceSub, Nat.reduceLeDiff, Nat.reduceEqDiff, reduceCtorEq, Int.reduceToNat, Int.reduceLE, Int.reduceLT, Int.reduceNeg, Nat.reducePow, Int.reducePow, hu]; (try simp (disch := omega) only [Eng.wrap_i64]); (repeat ((with_reducible refine And.intro ?_ ?_); (first | exact True.intro | omega | assumption | decide)))) | (refine S.regD ?_; simp only [go_sem, Nat.reduceBEq, Nat.reduceAdd, Nat.reduceMul, Nat.reduceSub, Nat.reduceLeDiff, Nat.reduceEqDiff, reduceCtorEq, Int.reduceToNat, Int.reduceLE, Int.reduceLT, Int.reduceNeg, Nat.reducePow, Int.reducePow, hu]; (try simp (disch := omega) only [Eng.wrap_i64]); (repeat ((with_reducible refine And.intro ?_ ?_); (first | exact True.intro | omega | assumption | decide))))))
  refine S.loop (X := Nat × List UInt8) (fun p => ⟨[(0, .bp 0 0), (4, .v (.int .u64 p.1))], [.box 38 [.rv 1], .row 5 1 p.2.length (byteCells p.2)], _, _⟩)
    (fun p => xs ++ natB u0 = p.2 ++ natB p.1 ∧ p.1 < 18446744073709551616) (fun p => p.1) (u0, xs) ⟨rfl, by omega⟩ (Ent.mk _ _ 0 1 ?_ ?_ ?_ (by intro h; first | (exact Nat.succ_pos _) | cases h)) ?_
  · (repeat' (first | exact trivial | rfl | refine frOK_cons ?_ rfl ?_))
  · (repeat' (first | exact trivial | refine rsOK_cons rfl rfl ?_ | refine rsOK_cons rfl (row_bd _ _) ?_ | refine rsOK_cons ?_ (row_bd _ _) ?_ | refine rsOK_cons ?_ rfl ?_))
  · trivial
  rintro ⟨u, done⟩ ⟨hxs, hlt⟩
  simp only [byteCells] at hxs hlt ⊢
  have hlen : done.length + (natB u).length ≤ 140737488355328 := by
    have := congrArg List.length hxs
    simp at this hl
    omega
  (repeat (first | refine S.seq ?_ | refine S.block ?_ | refine S.blk ?_ | refine S.skip ?_ | refine S.exit rfl ?_ | (refine S.reg ?_; simp only [go_sem, Nat.reduceBEq, Nat.reduceAdd, Nat.reduceMul, Nat.reduceSub, Nat.reduceLeDiff, Nat.reduceEqDiff, reduceCtorEq, Int.reduceToNat, Int.reduceLE, Int.reduceLT, Int.reduceNeg, Nat.reducePow, Int.reducePow]; (try simp (disch := omega) only [Eng.wrap_i64]); (repeat ((with_reducible refine And.intro ?_ ?_); (first | exact True.intro | omega | assumption | decide)))) | (refine S.regD ?_; simp only [go_sem, Nat.reduceBEq, Nat.reduceAdd, Nat.reduceMul, Nat.reduceSub, Nat.reduceLeDiff, Nat.reduceEqDiff, reduceCtorEq, Int.reduceToNat, Int.reduceLE, Int.reduceLT, Int.reduceNeg, Nat.reducePow, Int.reducePow]; (try simp (disch := omega) only [Eng.wrap_i64]); (repeat ((with_reducible refine And.intro ?_ ?_); (first | exact True.intro | omega | assumption | decide))))))
  (refine S.cond rfl (fun hc => ?_) (fun hc => ?_) <;> (try simp only [decide_eq_true_eq, decide_eq_false_iff_not, Bool.not_eq_true', Bool.not_eq_false', Bool.and_eq_true, Bool.or_eq_true, Bool.and_eq_false_iff, Bool.or_eq_false_iff] at hc))
  · have hge : ¬ u < 128 := by omega
    rw [natB_ge hge] at hxs hlen
    simp only [List.length_cons] at hlen
    (repeat (first | refine S.seq ?_ | refine S.block ?_ | refine S.blk ?_ | refine S.skip ?_ | refine S.exit rfl ?_ | (refine S.reg ?_; simp only [go_sem, Nat.reduceBEq, Nat.reduceAdd, Nat.reduceMul, Nat.reduceSub, Nat.reduceLeDiff, Nat.reduceEqDiff, reduceCtorEq, Int.reduceToNat, Int.reduceLE, Int.reduceLT, Int.reduceNeg, Nat.reducePow, Int.reducePow]; (try simp (disch := omega) only [Eng.wrap_i64]); (repeat ((with_reducible refine And.intro ?_ ?_); (first | exact True.intro | omega | assumption | decide)))) | (refine S.regD ?_; simp only [go_sem, Nat.reduceBEq, Nat.reduceAdd, Nat.reduceMul, Nat.reduceSub, Nat.reduceLeDiff, Nat.reduceEqDiff, reduceCtorEq, Int.reduceToNat, Int.reduceLE, Int.reduceLT, Int.reduceNeg, Nat.reducePow, Int.reducePow]; (try simp (disch := omega) only [Eng.wrap_i64]); (repeat ((with_reducible refine And.intro ?_ ?_); (first | exact True.intro | omega | assumption | decide))))))
    refine S.next (x := (u, done)) (u / 128, done ++ [UInt8.ofNat (u % 128 + 128)]) ⟨by rw [hxs]; simp, by simp only; omega⟩ (by simp only; omega) (Ent.mk _ _ 0 1 ?_ ?_ ?_ (by intro h; first | (exact Nat.succ_pos _) | cases h))
    · (repeat' (first | exact trivial | rfl | refine frOK_cons ?_ rfl ?_))
      exact int_eq (u64_quo hlt)
    · (repeat' (first | exact trivial | refine rsOK_cons rfl rfl ?_ | refine rsOK_cons rfl (row_bd _ _) ?_ | refine rsOK_cons ?_ (row_bd _ _) ?_ | refine rsOK_cons ?_ rfl ?_))
      exact row_eq (by simp) (by simp [byteCells, u8_low])
    · trivial
  · have hge : u < 128 := by omega
    rw [natB_lt hge] at hxs hlen
    simp only [List.length_cons] at hlen
    (repeat (first | refine S.seq ?_ | refine S.block ?_ | refine S.blk ?_ | refine S.skip ?_ | refine S.exit rfl ?_ | (refine S.reg ?_; simp only [go_sem, Nat.reduceBEq, Nat.reduceAdd, Nat.reduceMul, Nat.reduceSub, Nat.reduceLeDiff, Nat.reduceEqDiff, reduceCtorEq, Int.reduceToNat, Int.reduceLE, Int.reduceLT, Int.reduceNeg, Nat.reducePow, Int.reducePow]; (try simp (disch := omega) only [Eng.wrap_i64]); (repeat ((with_reducible refine And.intro ?_ ?_); (first | exact True.intro | omega | assumption | decide)))) | (refine S.regD ?_; simp only [go_sem, Nat.reduceBEq, Nat.reduceAdd, Nat.reduceMul, Nat.reduceSub, Nat.reduceLeDiff, Nat.reduceEqDiff, reduceCtorEq, Int.reduceToNat, Int.reduceLE, Int.reduceLT, Int.reduceNeg, Nat.reducePow, Int.reducePow]; (try simp (disch := omega) only [Eng.wrap_i64]); (repeat ((with_reducible refine And.intro ?_ ?_); (first | exact True.intro | omega | assumption | decide))))))
    rw [hxs]
    refine S.packW 0 1 0 rfl rfl rfl (ys := done ++ [UInt8.ofNat u]) (by simp) (by simp [byteCells, u8_one u hge]) ?_
    exact end_writer

theorem intB_0 : intB 0 = [0] := by unfold intB natB; decide
theorem intB_1 : intB 1 = [1] := by unfold intB natB; decide

theorem w_bool (b : Bool) (xs : List UInt8) (x : Value) (w : World) (hx : (writer xs).Ok x w) (hl : (xs ++ boolB b).length ≤ 140737488355328) :
    Calls Try.prog 11 #[x, .bool b] w (WPost xs (xs ++ boolB b) x w (.tuple #[])) := by
  refine enterO (args := [x, .bool b]) fn_world_writer_bool ok_world_writer_bool (writer xs) x hx [.rv 0, .v (.bool b)] [] (by simp [DenL, Den]) (by simp [ir_world_writer_bool]) (by simp) ?_
  simp only [ir_world_writer_bool, frOf]
  (repeat (first | refine S.seq ?_ | refine S.block ?_ | refine S.blk ?_ | refine S.skip ?_ | refine S.exit rfl ?_ | (refine S.reg ?_; simp only [go_sem, Nat.reduceBEq, Nat.reduceAdd, Nat.reduceMul, Nat.reduceSub, Nat.reduceLeDiff, Nat.reduceEqDiff, reduceCtorEq, Int.reduceToNat, Int.reduceLE, Int.reduceLT, Int.reduceNeg, Nat.reducePow, Int.reducePow]; (try simp (disch := omega) only [Eng.wrap_i64]); (repeat ((with_reducible refine And.intro ?_ ?_); (first | exact True.intro | omega | assumption | decide)))) | (refine S.regD ?_; simp only [go_sem, Nat.reduceBEq, Nat.reduceAdd, Nat.reduceMul, Nat.reduceSub, Nat.reduceLeDiff, Nat.reduceEqDiff, reduceCtorEq, Int.reduceToNat, Int.reduceLE, Int.reduceLT, Int.reduceNeg, Nat.reducePow, Int.reducePow]; (try simp (disch := omega) only [Eng.wrap_i64]); (repeat ((with_reducible refine And.intro ?_ ?_); (first | exact True.intro | omega | assumption | decide))))))
  (refine S.cond rfl (fun hc => ?_) (fun hc => ?_) <;> (try simp only [decide_eq_true_eq, decide_eq_false_iff_not, Bool.not_eq_true', Bool.not_eq_false', Bool.and_eq_true, Bool.or_eq_true, Bool.and_eq_false_iff, Bool.or_eq_false_iff] at hc))
  · subst hc
    simp only [boolB, if_true] at hl ⊢
    (repeat (first | refine S.seq ?_ | refine S.block ?_ | refine S.blk ?_ | refine S.skip ?_ | refine S.exit rfl ?_ | (refine S.reg ?_; simp only [go_sem, Nat.reduceBEq, Nat.reduceAdd, Nat.reduceMul, Nat.reduceSub, Nat.reduceLeDiff, Nat.reduceEqDiff, reduceCtorEq, Int.reduceToNat, Int.reduceLE, Int.reduceLT, Int.reduceNeg, Nat.reducePow, Int.reducePow]; (try simp (disch := omega) only [Eng.wrap_i64]); (repeat ((with_reducible refine And.intro ?_ ?_); (first | exact True.intro | omega | assumption | decide)))) | (refine S.regD ?_; simp only [go_sem, Nat.reduceBEq, Nat.reduceAdd, Nat.reduceMul, Nat.reduceSub, Nat.reduceLeDiff, Nat.reduceEqDiff, reduceCtorEq, Int.reduceToNat, Int.reduceLE, Int.reduceLT, Int.reduceNeg, Nat.reducePow, Int.reducePow]; (try simp (disch := omega) only [Eng.wrap_i64]); (repeat ((with_reducible refine And.intro ?_ ?_); (first | exact True.intro | omega | assumption | decide))))))
    refine CallOK.obj 0 (writer xs) (writer (xs ++ intB 1)) (fun x => [x, .int .i64 1]) (.tuple #[]) rfl (fun _ => rfl) (fun ν a w x hG hx hok => w_nat 1 xs x w hok (by rw [intB_1]; exact hl)) ?_
    (simp only [go_sem, Nat.reduceBEq, Nat.reduceAdd, Nat.reduceMul, Nat.reduceSub, Nat.reduceLeDiff, Nat.reduceEqDiff, reduceCtorEq, Int.reduceToNat, Int.reduceLE, Int.reduceLT, Int.reduceNeg, Nat.reducePow, Int.reducePow]; (try simp (disch := omega) only [Eng.wrap_i64]); (repeat ((with_reducible refine And.intro ?_ ?_); (first | exact True.intro | omega | assumption | decide))); (repeat (first | refine S.seq ?_ | refine S.block ?_ | refine S.blk ?_ | refine S.skip ?_ | refine S.exit rfl ?_ | (refine S.reg ?_; simp only [go_sem, Nat.reduceBEq, Nat.reduceAdd, Nat.reduceMul, Nat.reduceSub, Nat.reduceLeDiff, Nat.reduceEqDiff, reduceCtorEq, Int.reduceToNat, Int.reduceLE, Int.reduceLT, Int.reduceNeg, Nat.reducePow, Int.reducePow]; (try simp (disch := omega) only [Eng.wrap_i64]); (repeat ((with_reducible refine And.intro ?_ ?_); (first | exact True.intro | omega | assumption | decide)))) | (refine S.regD ?_; simp only [go_sem, Nat.reduceBEq, Nat.reduceAdd, Nat.reduceMul, Nat.reduceSub, Nat.reduceLeDiff, Nat.reduceEqDiff, reduceCtorEq, Int.reduceToNat, Int.reduceLE, Int.reduceLT, Int.reduceNeg, Nat.reducePow, Int.reducePow]; (try simp (disch := omega) only [Eng.wrap_i64]); (repeat ((with_reducible refine And.intro ?_ ?_); (first | exact True.intro | omega | assumption | decide)))))))
    rw [intB_1]
    exact end_writer
  · subst hc
    simp only [boolB, Bool.false_eq_true, if_false] at hl ⊢
    (repeat (first | refine S.seq ?_ | refine S.block ?_ | refine S.blk ?_ | refine S.skip ?_ | refine S.exit rfl ?_ | (refine S.reg ?_; simp only [go_sem, Nat.reduceBEq, Nat.reduceAdd, Nat.reduceMul, Nat.reduceSub, Nat.reduceLeDiff, Nat.reduceEqDiff, reduceCtorEq, Int.reduceToNat, Int.reduceLE, Int.reduceLT, Int.reduceNeg, Nat.reducePow, Int.reducePow]; (try simp (disch := omega) only [Eng.wrap_i64]); (repeat ((with_reducible refine And.intro ?_ ?_); (first | exact True.intro | omega | assumption | decide)))) | (refine S.regD ?_; simp only [go_sem, Nat.reduceBEq, Nat.reduceAdd, Nat.reduceMul, Nat.reduceSub, Nat.reduceLeDiff, Nat.reduceEqDiff, reduceCtorEq, Int.reduceToNat, Int.reduceLE, Int.reduceLT, Int.reduceNeg, Nat.reducePow, Int.reducePow]; (try simp (disch := omega) only [Eng.wrap_i64]); (repeat ((with_reducible refine And.intro ?_ ?_); (first | exact True.intro | omega | assumption | decide))))))
    refine CallOK.obj 0 (writer xs) (writer (xs ++ intB 0)) (fun x => [x, .int .i64 0]) (.tuple #[]) rfl (fun _ => rfl) (fun ν a w x hG hx hok => w_nat 0 xs x w hok (by rw [intB_0]; exact hl)) ?_
    (simp only [go_sem, Nat.reduceBEq, Nat.reduceAdd, Nat.reduceMul, Nat.reduceSub, Nat.reduceLeDiff, Nat.reduceEqDiff, reduceCtorEq, Int.reduceToNat, Int.reduceLE, Int.reduceLT, Int.reduceNeg, Nat.reducePow, Int.reducePow]; (try simp (disch := omega) only [Eng.wrap_i64]); (repeat ((with_reducible refine And.intro ?_ ?_); (first | exact True.intro | omega | assumption | decide))); (repeat (first | refine S.seq ?_ | refine S.block ?_ | refine S.blk ?_ | refine S.skip ?_ | refine S.exit rfl ?_ | (refine S.reg ?_; simp only [go_sem, Nat.reduceBEq, Nat.reduceAdd, Nat.reduceMul, Nat.reduceSub, Nat.reduceLeDiff, Nat.reduceEqDiff, reduceCtorEq, Int.reduceToNat, Int.reduceLE, Int.reduceLT, Int.reduceNeg, Nat.reducePow, Int.reducePow]; (try simp (disch := omega) only [Eng.wrap_i64]); (repeat ((with_reducible refine And.intro ?_ ?_); (first | exact True.intro | omega | assumption | decide)))) | (refine S.regD ?_; simp only [go_sem, Nat.reduceBEq, Nat.reduceAdd, Nat.reduceMul, Nat.reduceSub, Nat.reduceLeDiff, Nat.reduceEqDiff, reduceCtorEq, Int.reduceToNat, Int.reduceLE, Int.reduceLT, Int.reduceNeg, Nat.reducePow, Int.reducePow]; (try simp (disch := omega) only [Eng.wrap_i64]); (repeat ((with_reducible refine And.intro ?_ ?_); (first | exact True.intro | omega | assumption | decide)))))))
    rw [intB_0]
    exact end_writer

theorem w_text (s : ByteArray) (xs : List UInt8) (x : Value) (w : World) (hx : (writer xs).Ok x w) (hl : (xs ++ textB s).length ≤ 140737488355328) :
    Calls Try.prog 25 #[x, .string s] w (WPost xs (xs ++ textB s) x w (.tuple #[])) := by
  refine enterO (args := [x, .string s]) fn_world_writer_text ok_world_writer_text (writer xs) x hx [.rv 0, .v (.string s)] [] (by simp [DenL, Den]) (by simp [ir_world_writer_text]) (by simp) ?_
  simp only [ir_world_writer_text, frOf]
  unfold textB at hl ⊢
  have hsz : s.data.toList.length = s.size := by cases s; simp [ByteArray.size]
  simp only [List.length_append, hsz] at hl
  (repeat (first | refine S.seq ?_ | refine S.block ?_ | refine S.blk ?_ | refine S.skip ?_ | refine S.exit rfl ?_ | (refine S.reg ?_; simp only [go_sem, Nat.reduceBEq, Nat.reduceAdd, Nat.reduceMul, Nat.reduceSub, Nat.reduceLeDiff, Nat.reduceEqDiff, reduceCtorEq, Int.reduceToNat, Int.reduceLE, Int.reduceLT, Int.reduceNeg, Nat.reducePow, Int.reducePow]; (try simp (disch := omega) only [Eng.wrap_i64]); (repeat ((with_reducible refine And.intro ?_ ?_); (first | exact True.intro | omega | assumption | decide)))) | (refine S.regD ?_; simp only [go_sem, Nat.reduceBEq, Nat.reduceAdd, Nat.reduceMul, Nat.reduceSub, Nat.reduceLeDiff, Nat.reduceEqDiff, reduceCtorEq, Int.reduceToNat, Int.reduceLE, Int.reduceLT, Int.reduceNeg, Nat.reducePow, Int.reducePow]; (try simp (disch := omega) only [Eng.wrap_i64]); (repeat ((with_reducible refine And.intro ?_ ?_); (first | exact True.intro | omega | assumption | decide))))))
  refine CallOK.obj 0 (writer xs) (writer (xs ++ intB s.size)) (fun x => [x, .int .i64 s.size]) (.tuple #[]) rfl (fun _ => rfl) (fun ν a w x hG hx hok => w_nat s.size xs x w hok (by simp only [List.length_append]; omega)) ?_
  simp only [go_sem, Nat.reduceBEq, Nat.reduceAdd, Nat.reduceMul, Nat.reduceSub, Nat.reduceLeDiff, Nat.reduceEqDiff, reduceCtorEq, Int.reduceToNat, Int.reduceLE, Int.reduceLT, Int.reduceNeg, Nat.reducePow, Int.reducePow]
  (repeat ((with_reducible refine And.intro ?_ ?_); (first | exact True.intro | omega | assumption | decide)))
  refine S.unpackW 0 0 rfl rfl ?_
  simp only [List.set_cons_zero, List.length_cons, List.length_nil, List.cons_append, List.nil_append, byteCells]
  (repeat (first | refine S.seq ?_ | refine S.block ?_ | refine S.blk ?_ | refine S.skip ?_ | refine S.exit rfl ?_ | (refine S.reg ?_; simp only [go_sem, Nat.reduceBEq, Nat.reduceAdd, Nat.reduceMul, Nat.reduceSub, Nat.reduceLeDiff, Nat.reduceEqDiff, reduceCtorEq, Int.reduceToNat, Int.reduceLE, Int.reduceLT, Int.reduceNeg, Nat.reducePow, Int.reducePow]; (try simp (disch := omega) only [Eng.wrap_i64]); (repeat ((with_reducible refine And.intro ?_ ?_); (first | exact True.intro | omega | assumption | decide)))) | (refine S.regD ?_; simp only [go_sem, Nat.reduceBEq, Nat.reduceAdd, Nat.reduceMul, Nat.reduceSub, Nat.reduceLeDiff, Nat.reduceEqDiff, reduceCtorEq, Int.reduceToNat, Int.reduceLE, Int.reduceLT, Int.reduceNeg, Nat.reducePow, Int.reducePow]; (try simp (disch := omega) only [Eng.wrap_i64]); (repeat ((with_reducible refine And.intro ?_ ?_); (first | exact True.intro | omega | assumption | decide))))))
  refine ⟨by simp only [List.length_append]; omega, ?_⟩
  rw [← List.append_assoc]
  refine S.packW 0 1 0 rfl rfl rfl (ys := xs ++ intB s.size ++ s.data.toList) (by simp [hsz]; omega) (by simp [byteCells]) ?_
  exact end_writer

theorem w_rat (q : Rt) (xs : List UInt8) (x : Value) (w : World) (hx : (writer xs).Ok x w) (hl : (xs ++ ratB q).length ≤ 140737488355328) :
    Calls Try.prog 13 #[x, .agg q.enc.toArray] w (WPost xs (xs ++ ratB q) x w (.tuple #[])) := by
  refine enterO (args := [x, .agg q.enc.toArray]) fn_world_writer_rat ok_world_writer_rat (writer xs) x hx [.rv 0, .v (.agg q.enc.toArray)] [] (by simp [DenL, Den]) (by simp [ir_world_writer_rat]) (by simp) ?_
  simp only [ir_world_writer_rat, frOf, Rt.enc]
  unfold ratB at hl ⊢
  simp only [List.length_append] at hl
  (repeat (first | refine S.seq ?_ | refine S.block ?_ | refine S.blk ?_ | refine S.skip ?_ | refine S.exit rfl ?_ | (refine S.reg ?_; simp only [go_sem, Nat.reduceBEq, Nat.reduceAdd, Nat.reduceMul, Nat.reduceSub, Nat.reduceLeDiff, Nat.reduceEqDiff, reduceCtorEq, Int.reduceToNat, Int.reduceLE, Int.reduceLT, Int.reduceNeg, Nat.reducePow, Int.reducePow]; (try simp (disch := omega) only [Eng.wrap_i64]); (repeat ((with_reducible refine And.intro ?_ ?_); (first | exact True.intro | omega | assumption | decide)))) | (refine S.regD ?_; simp only [go_sem, Nat.reduceBEq, Nat.reduceAdd, Nat.reduceMul, Nat.reduceSub, Nat.reduceLeDiff, Nat.reduceEqDiff, reduceCtorEq, Int.reduceToNat, Int.reduceLE, Int.reduceLT, Int.reduceNeg, Nat.reducePow, Int.reducePow]; (try simp (disch := omega) only [Eng.wrap_i64]); (repeat ((with_reducible refine And.intro ?_ ?_); (first | exact True.intro | omega | assumption | decide))))))
  refine CallOK.obj 0 (writer xs) (writer (xs ++ boolB q.neg)) (fun x => [x, .bool q.neg]) (.tuple #[]) rfl (fun _ => rfl) (fun ν a w x hG hx hok => w_bool q.neg xs x w hok (by simp only [List.length_append]; omega)) ?_
  (simp only [go_sem, Nat.reduceBEq, Nat.reduceAdd, Nat.reduceMul, Nat.reduceSub, Nat.reduceLeDiff, Nat.reduceEqDiff, reduceCtorEq, Int.reduceToNat, Int.reduceLE, Int.reduceLT, Int.reduceNeg, Nat.reducePow, Int.reducePow]; (try simp (disch := omega) only [Eng.wrap_i64]); (repeat ((with_reducible refine And.intro ?_ ?_); (first | exact True.intro | omega | assumption | decide))); (repeat (first | refine S.seq ?_ | refine S.block ?_ | refine S.blk ?_ | refine S.skip ?_ | refine S.exit rfl ?_ | (refine S.reg ?_; simp only [go_sem, Nat.reduceBEq, Nat.reduceAdd, Nat.reduceMul, Nat.reduceSub, Nat.reduceLeDiff, Nat.reduceEqDiff, reduceCtorEq, Int.reduceToNat, Int.reduceLE, Int.reduceLT, Int.reduceNeg, Nat.reducePow, Int.reducePow]; (try simp (disch := omega) only [Eng.wrap_i64]); (repeat ((with_reducible refine And.intro ?_ ?_); (first | exact True.intro | omega | assumption | decide)))) | (refine S.regD ?_; simp only [go_sem, Nat.reduceBEq, Nat.reduceAdd, Nat.reduceMul, Nat.reduceSub, Nat.reduceLeDiff, Nat.reduceEqDiff, reduceCtorEq, Int.reduceToNat, Int.reduceLE, Int.reduceLT, Int.reduceNeg, Nat.reducePow, Int.reducePow]; (try simp (disch := omega) only [Eng.wrap_i64]); (repeat ((with_reducible refine And.intro ?_ ?_); (first | exact True.intro | omega | assumption | decide)))))))
  refine CallOK.obj 0 (writer _) (writer (xs ++ boolB q.neg ++ textB q.num)) (fun x => [x, .string q.num]) (.tuple #[]) rfl (fun _ => rfl) (fun ν a w x hG hx hok => w_text q.num _ x w hok (by simp only [List.length_append]; omega)) ?_
  (simp only [go_sem, Nat.reduceBEq, Nat.reduceAdd, Nat.reduceMul, Nat.reduceSub, Nat.reduceLeDiff, Nat.reduceEqDiff, reduceCtorEq, Int.reduceToNat, Int.reduceLE, Int.reduceLT, Int.reduceNeg, Nat.reducePow, Int.reducePow]; (try simp (disch := omega) only [Eng.wrap_i64]); (repeat ((with_reducible refine And.intro ?_ ?_); (first | exact True.intro | omega | assumption | decide))); (repeat (first | refine S.seq ?_ | refine S.block ?_ | refine S.blk ?_ | refine S.skip ?_ | refine S.exit rfl ?_ | (refine S.reg ?_; simp only [go_sem, Nat.reduceBEq, Nat.reduceAdd, Nat.reduceMul, Nat.reduceSub, Nat.reduceLeDiff, Nat.reduceEqDiff, reduceCtorEq, Int.reduceToNat, Int.reduceLE, Int.reduceLT, Int.reduceNeg, Nat.reducePow, Int.reducePow]; (try simp (disch := omega) only [Eng.wrap_i64]); (repeat ((with_reducible refine And.intro ?_ ?_); (first | exact True.intro | omega | assumption | decide)))) | (refine S.regD ?_; simp only [go_sem, Nat.reduceBEq, Nat.reduceAdd, Nat.reduceMul, Nat.reduceSub, Nat.reduceLeDiff, Nat.reduceEqDiff, reduceCtorEq, Int.reduceToNat, Int.reduceLE, Int.reduceLT, Int.reduceNeg, Nat.reducePow, Int.reducePow]; (try simp (disch := omega) only [Eng.wrap_i64]); (repeat ((with_reducible refine And.intro ?_ ?_); (first | exact True.intro | omega | assumption | decide)))))))
  refine CallOK.obj 0 (writer _) (writer (xs ++ boolB q.neg ++ textB q.num ++ textB q.den)) (fun x => [x, .string q.den]) (.tuple #[]) rfl (fun _ => rfl) (fun ν a w x hG hx hok => w_text q.den _ x w hok (by simp only [List.length_append]; omega)) ?_
  (simp only [go_sem, Nat.reduceBEq, Nat.reduceAdd, Nat.reduceMul, Nat.reduceSub, Nat.reduceLeDiff, Nat.reduceEqDiff, reduceCtorEq, Int.reduceToNat, Int.reduceLE, Int.reduceLT, Int.reduceNeg, Nat.reducePow, Int.reducePow]; (try simp (disch := omega) only [Eng.wrap_i64]); (repeat ((with_reducible refine And.intro ?_ ?_); (first | exact True.intro | omega | assumption | decide))); (repeat (first | refine S.seq ?_ | refine S.block ?_ | refine S.blk ?_ | refine S.skip ?_ | refine S.exit rfl ?_ | (refine S.reg ?_; simp only [go_sem, Nat.reduceBEq, Nat.reduceAdd, Nat.reduceMul, Nat.reduceSub, Nat.reduceLeDiff, Nat.reduceEqDiff, reduceCtorEq, Int.reduceToNat, Int.reduceLE, Int.reduceLT, Int.reduceNeg, Nat.reducePow, Int.reducePow]; (try simp (disch := omega) only [Eng.wrap_i64]); (repeat ((with_reducible refine And.intro ?_ ?_); (first | exact True.intro | omega | assumption | decide)))) | (refine S.regD ?_; simp only [go_sem, Nat.reduceBEq, Nat.reduceAdd, Nat.reduceMul, Nat.reduceSub, Nat.reduceLeDiff, Nat.reduceEqDiff, reduceCtorEq, Int.reduceToNat, Int.reduceLE, Int.reduceLT, Int.reduceNeg, Nat.reducePow, Int.reducePow]; (try simp (disch := omega) only [Eng.wrap_i64]); (repeat ((with_reducible refine And.intro ?_ ?_); (first | exact True.intro | omega | assumption | decide)))))))
  simp only [← List.append_assoc]
  exact end_writer

theorem w_vec (v : Vc) (xs : List UInt8) (x : Value) (w : World) (hx : (writer xs).Ok x w) (hl : (xs ++ vecB v).length ≤ 140737488355328) :
    Calls Try.prog 12 #[x, .agg v.enc.toArray] w (WPost xs (xs ++ vecB v) x w (.tuple #[])) := by
  refine enterO (args := [x, .agg v.enc.toArray]) fn_world_writer_vec ok_world_writer_vec (writer xs) x hx [.rv 0, .v (.agg v.enc.toArray)] [] (by simp [DenL, Den]) (by simp [ir_world_writer_vec]) (by simp) ?_
  simp only [ir_world_writer_vec, frOf, Vc.enc]
  unfold vecB at hl ⊢
  simp only [List.length_append] at hl
  (repeat (first | refine S.seq ?_ | refine S.block ?_ | refine S.blk ?_ | refine S.skip ?_ | refine S.exit rfl ?_ | (refine S.reg ?_; simp only [go_sem, Nat.reduceBEq, Nat.reduceAdd, Nat.reduceMul, Nat.reduceSub, Nat.reduceLeDiff, Nat.reduceEqDiff, reduceCtorEq, Int.reduceToNat, Int.reduceLE, Int.reduceLT, Int.reduceNeg, Nat.reducePow, Int.reducePow]; (try simp (disch := omega) only [Eng.wrap_i64]); (repeat ((with_reducible refine And.intro ?_ ?_); (first | exact True.intro | omega | assumption | decide)))) | (refine S.regD ?_; simp only [go_sem, Nat.reduceBEq, Nat.reduceAdd, Nat.reduceMul, Nat.reduceSub, Nat.reduceLeDiff, Nat.reduceEqDiff, reduceCtorEq, Int.reduceToNat, Int.reduceLE, Int.reduceLT, Int.reduceNeg, Nat.reducePow, Int.reducePow]; (try simp (disch := omega) only [Eng.wrap_i64]); (repeat ((with_reducible refine And.intro ?_ ?_); (first | exact True.intro | omega | assumption | decide))))))
  refine CallOK.obj 0 (writer xs) (writer (xs ++ ratB v.x)) (fun x => [x, .agg v.x.enc.toArray]) (.tuple #[]) rfl (fun _ => rfl) (fun ν a w x hG hx hok => w_rat v.x xs x w hok (by simp only [List.length_append]; omega)) ?_
  (simp only [go_sem, Nat.reduceBEq, Nat.reduceAdd, Nat.reduceMul, Nat.reduceSub, Nat.reduceLeDiff, Nat.reduceEqDiff, reduceCtorEq, Int.reduceToNat, Int.reduceLE, Int.reduceLT, Int.reduceNeg, Nat.reducePow, Int.reducePow]; (try simp (disch := omega) only [Eng.wrap_i64]); (repeat ((with_reducible refine And.intro ?_ ?_); (first | exact True.intro | omega | assumption | decide))); (repeat (first | refine S.seq ?_ | refine S.block ?_ | refine S.blk ?_ | refine S.skip ?_ | refine S.exit rfl ?_ | (refine S.reg ?_; simp only [go_sem, Nat.reduceBEq, Nat.reduceAdd, Nat.reduceMul, Nat.reduceSub, Nat.reduceLeDiff, Nat.reduceEqDiff, reduceCtorEq, Int.reduceToNat, Int.reduceLE, Int.reduceLT, Int.reduceNeg, Nat.reducePow, Int.reducePow]; (try simp (disch := omega) only [Eng.wrap_i64]); (repeat ((with_reducible refine And.intro ?_ ?_); (first | exact True.intro | omega | assumption | decide)))) | (refine S.regD ?_; simp only [go_sem, Nat.reduceBEq, Nat.reduceAdd, Nat.reduceMul, Nat.reduceSub, Nat.reduceLeDiff, Nat.reduceEqDiff, reduceCtorEq, Int.reduceToNat, Int.reduceLE, Int.reduceLT, Int.reduceNeg, Nat.reducePow, Int.reducePow]; (try simp (disch := omega) only [Eng.wrap_i64]); (repeat ((with_reducible refine And.intro ?_ ?_); (first | exact True.intro | omega | assumption | decide)))))))
  refine CallOK.obj 0 (writer _) (writer (xs ++ ratB v.x ++ ratB v.y)) (fun x => [x, .agg v.y.enc.toArray]) (.tuple #[]) rfl (fun _ => rfl) (fun ν a w x hG hx hok => w_rat v.y _ x w hok (by simp only [List.length_append]; omega)) ?_
  (simp only [go_sem, Nat.reduceBEq, Nat.reduceAdd, Nat.reduceMul, Nat.reduceSub, Nat.reduceLeDiff, Nat.reduceEqDiff, reduceCtorEq, Int.reduceToNat, Int.reduceLE, Int.reduceLT, Int.reduceNeg, Nat.reducePow, Int.reducePow]; (try simp (disch := omega) only [Eng.wrap_i64]); (repeat ((with_reducible refine And.intro ?_ ?_); (first | exact True.intro | omega | assumption | decide))); (repeat (first | refine S.seq ?_ | refine S.block ?_ | refine S.blk ?_ | refine S.skip ?_ | refine S.exit rfl ?_ | (refine S.reg ?_; simp only [go_sem, Nat.reduceBEq, Nat.reduceAdd, Nat.reduceMul, Nat.reduceSub, Nat.reduceLeDiff, Nat.reduceEqDiff, reduceCtorEq, Int.reduceToNat, Int.reduceLE, Int.reduceLT, Int.reduceNeg, Nat.reducePow, Int.reducePow]; (try simp (disch := omega) only [Eng.wrap_i64]); (repeat ((with_reducible refine And.intro ?_ ?_); (first | exact True.intro | omega | assumption | decide)))) | (refine S.regD ?_; simp only [go_sem, Nat.reduceBEq, Nat.reduceAdd, Nat.reduceMul, Nat.reduceSub, Nat.reduceLeDiff, Nat.reduceEqDiff, reduceCtorEq, Int.reduceToNat, Int.reduceLE, Int.reduceLT, Int.reduceNeg, Nat.reducePow, Int.reducePow]; (try simp (disch := omega) only [Eng.wrap_i64]); (repeat ((with_reducible refine And.intro ?_ ?_); (first | exact True.intro | omega | assumption | decide)))))))
  simp only [← List.append_assoc]
  exact end_writer

theorem flatMap_take_succ {α β : Type} (f : α → List β) {l : List α} {i : Nat} (h : i < l.length) : (l.take (i + 1)).flatMap f = (l.take i).flatMap f ++ f l[i] := by
  rw [List.take_succ_eq_append_getElem h, List.flatMap_append]
  simp
theorem flatMap_take_len {α β : Type} (f : α → List β) {l : List α} {i : Nat} (h : i < l.length) : ((l.take i).flatMap f).length + (f l[i]).length ≤ (l.flatMap f).length := by
  have := flatMap_take_succ f h
  have h2 : l.flatMap f = (l.take (i + 1)).flatMap f ++ (l.drop (i + 1)).flatMap f := by rw [← List.flatMap_append, List.take_append_drop]
  rw [h2, this]
  simp only [List.length_append]
  omega

theorem w_rats (s : Sc Rt) (xs : List UInt8) (x : Value) (w : World) (hx : (writer xs).Ok x w) (hs : SliOK w (fun b => b < w.heap.size ∧ ¬ (writer xs).fp x w b) (sliOf 0 Rt.enc 3 s)) (hl : (xs ++ listB ratB s.xs).length ≤ 140737488355328) :
    Calls Try.prog 10 #[x, s.val] w (WPost xs (xs ++ listB ratB s.xs) x w (.tuple #[])) := by
  have hn := sliOf_len hs
  refine enterO (args := [x, s.val]) fn_world_writer_rats ok_world_writer_rats (writer xs) x hx [.rv 0, .sl 0] [sliOf 0 Rt.enc 3 s] (by simp [DenL, Den, sliOf, Sc.val]) (by simp [ir_world_writer_rats]) (by simp [sliOf]; exact hs) ?_
  simp only [ir_world_writer_rats, frOf, sliOf]
  unfold listB at hl ⊢
  simp only [List.length_append] at hl
  (repeat (first | refine S.seq ?_ | refine S.block ?_ | refine S.blk ?_ | refine S.skip ?_ | refine S.exit rfl ?_ | (refine S.reg ?_; simp only [go_sem, Nat.reduceBEq, Nat.reduceAdd, Nat.reduceMul, Nat.reduceSub, Nat.reduceLeDiff, Nat.reduceEqDiff, reduceCtorEq, Int.reduceToNat, Int.reduceLE, Int.reduceLT, Int.reduceNeg, Nat.reducePow, Int.reducePow]; (try simp (disch := omega) only [Eng.wrap_i64]); (repeat ((with_reducible refine And.intro ?_ ?_); (first | exact True.intro | omega | assumption | decide)))) | (refine S.regD ?_; simp only [go_sem, Nat.reduceBEq, Nat.reduceAdd, Nat.reduceMul, Nat.reduceSub, Nat.reduceLeDiff, Nat.reduceEqDiff, reduceCtorEq, Int.reduceToNat, Int.reduceLE, Int.reduceLT, Int.reduceNeg, Nat.reducePow, Int.reducePow]; (try simp (disch := omega) only [Eng.wrap_i64]); (repeat ((with_reducible refine And.intro ?_ ?_); (first | exact True.intro | omega | assumption | decide))))))
  refine CallOK.obj 0 (writer xs) (writer (xs ++ intB s.xs.length)) (fun x => [x, .int .i64 s.xs.length]) (.tuple #[]) rfl (fun _ => rfl) (fun ν a w x hG hx hok => w_nat _ xs x w hok (by simp only [List.length_append]; omega)) ?_
  (simp only [go_sem, Nat.reduceBEq, Nat.reduceAdd, Nat.reduceMul, Nat.reduceSub, Nat.reduceLeDiff, Nat.reduceEqDiff, reduceCtorEq, Int.reduceToNat, Int.reduceLE, Int.reduceLT, Int.reduceNeg, Nat.reducePow, Int.reducePow]; (try simp (disch := omega) only [Eng.wrap_i64]); (repeat ((with_reducible refine And.intro ?_ ?_); (first | exact True.intro | omega | assumption | decide))); (repeat (first | refine S.seq ?_ | refine S.block ?_ | refine S.blk ?_ | refine S.skip ?_ | refine S.exit rfl ?_ | (refine S.reg ?_; simp only [go_sem, Nat.reduceBEq, Nat.reduceAdd, Nat.reduceMul, Nat.reduceSub, Nat.reduceLeDiff, Nat.reduceEqDiff, reduceCtorEq, Int.reduceToNat, Int.reduceLE, Int.reduceLT, Int.reduceNeg, Nat.reducePow, Int.reducePow]; (try simp (disch := omega) only [Eng.wrap_i64]); (repeat ((with_reducible refine And.intro ?_ ?_); (first | exact True.intro | omega | assumption | decide)))) | (refine S.regD ?_; simp only [go_sem, Nat.reduceBEq, Nat.reduceAdd, Nat.reduceMul, Nat.reduceSub, Nat.reduceLeDiff, Nat.reduceEqDiff, reduceCtorEq, Int.reduceToNat, Int.reduceLE, Int.reduceLT, Int.reduceNeg, Nat.reducePow, Int.reducePow]; (try simp (disch := omega) only [Eng.wrap_i64]); (repeat ((with_reducible refine And.intro ?_ ?_); (first | exact True.intro | omega | assumption | decide)))))))
  refine S.loop (X := Nat) (fun i => ⟨[(0, .rv 0), (10, .sl 0), (11, .v (.int .i64 s.xs.length)), (12, .v (.int .i64 i))], [.obj (writer (xs ++ intB s.xs.length ++ (s.xs.take i).flatMap ratB))], _, _⟩)
    (fun i => i ≤ s.xs.length) (fun i => s.xs.length - i) 0 (Nat.zero_le _) (Ent.mk _ _ 1 1 ?_ ?_ ?_ (by intro h; first | (exact Nat.succ_pos _) | cases h)) ?_
  · (repeat' (first | exact trivial | rfl | refine frOK_cons ?_ rfl ?_))
  · (repeat' (first | exact trivial | refine rsOK_cons rfl rfl ?_ | refine rsOK_cons rfl (row_bd _ _) ?_ | refine rsOK_cons ?_ (row_bd _ _) ?_ | refine rsOK_cons ?_ rfl ?_))
    simp
  · exact ⟨Nat.one_pos, trivial⟩
  intro i hi
  simp only at hi ⊢
  (repeat (first | refine S.seq ?_ | refine S.block ?_ | refine S.blk ?_ | refine S.skip ?_ | refine S.exit rfl ?_ | (refine S.reg ?_; simp only [go_sem, Nat.reduceBEq, Nat.reduceAdd, Nat.reduceMul, Nat.reduceSub, Nat.reduceLeDiff, Nat.reduceEqDiff, reduceCtorEq, Int.reduceToNat, Int.reduceLE, Int.reduceLT, Int.reduceNeg, Nat.reducePow, Int.reducePow]; (try simp (disch := omega) only [Eng.wrap_i64]); (repeat ((with_reducible refine And.intro ?_ ?_); (first | exact True.intro | omega | assumption | decide)))) | (refine S.regD ?_; simp only [go_sem, Nat.reduceBEq, Nat.reduceAdd, Nat.reduceMul, Nat.reduceSub, Nat.reduceLeDiff, Nat.reduceEqDiff, reduceCtorEq, Int.reduceToNat, Int.reduceLE, Int.reduceLT, Int.reduceNeg, Nat.reducePow, Int.reducePow]; (try simp (disch := omega) only [Eng.wrap_i64]); (repeat ((with_reducible refine And.intro ?_ ?_); (first | exact True.intro | omega | assumption | decide))))))
  (refine S.cond rfl (fun hc => ?_) (fun hc => ?_) <;> (try simp only [decide_eq_true_eq, decide_eq_false_iff_not, Bool.not_eq_true', Bool.not_eq_false', Bool.and_eq_true, Bool.or_eq_true, Bool.and_eq_false_iff, Bool.or_eq_false_iff] at hc))
  · have hi' : i < s.xs.length := by omega
    have hgi := getElem?_lt hi'
    (repeat (first | refine S.seq ?_ | refine S.block ?_ | refine S.blk ?_ | refine S.skip ?_ | refine S.exit rfl ?_ | (refine S.reg ?_; simp only [go_sem, Nat.reduceBEq, Nat.reduceAdd, Nat.reduceMul, Nat.reduceSub, Nat.reduceLeDiff, Nat.reduceEqDiff, reduceCtorEq, Int.reduceToNat, Int.reduceLE, Int.reduceLT, Int.reduceNeg, Nat.reducePow, Int.reducePow, hgi, Option.map_some, Rt.enc]; (try simp (disch := omega) only [Eng.wrap_i64]); (repeat ((with_reducible refine And.intro ?_ ?_); (first | exact True.intro | omega | assumption | decide)))) | (refine S.regD ?_; simp only [go_sem, Nat.reduceBEq, Nat.reduceAdd, Nat.reduceMul, Nat.reduceSub, Nat.reduceLeDiff, Nat.reduceEqDiff, reduceCtorEq, Int.reduceToNat, Int.reduceLE, Int.reduceLT, Int.reduceNeg, Nat.reducePow, Int.reducePow, hgi, Option.map_some, Rt.enc]; (try simp (disch := omega) only [Eng.wrap_i64]); (repeat ((with_reducible refine And.intro ?_ ?_); (first | exact True.intro | omega | assumption | decide))))))
    have hfm : (s.xs.take (i + 1)).flatMap ratB = (s.xs.take i).flatMap ratB ++ ratB s.xs[i] := flatMap_take_succ _ hi'
    have hle := flatMap_take_len ratB (l := s.xs) hi'
    refine CallOK.obj 0 (writer _) (writer (xs ++ intB s.xs.length ++ (s.xs.take i).flatMap ratB ++ ratB s.xs[i])) (fun x => [x, .agg s.xs[i].enc.toArray]) (.tuple #[]) rfl (fun _ => rfl) (fun ν a w x hG hx hok => w_rat s.xs[i] _ x w hok (by simp only [List.length_append]; omega)) ?_
    (simp only [go_sem, Nat.reduceBEq, Nat.reduceAdd, Nat.reduceMul, Nat.reduceSub, Nat.reduceLeDiff, Nat.reduceEqDiff, reduceCtorEq, Int.reduceToNat, Int.reduceLE, Int.reduceLT, Int.reduceNeg, Nat.reducePow, Int.reducePow]; (try simp (disch := omega) only [Eng.wrap_i64]); (repeat ((with_reducible refine And.intro ?_ ?_); (first | exact True.intro | omega | assumption | decide))); (repeat (first | refine S.seq ?_ | refine S.block ?_ | refine S.blk ?_ | refine S.skip ?_ | refine S.exit rfl ?_ | (refine S.reg ?_; simp only [go_sem, Nat.reduceBEq, Nat.reduceAdd, Nat.reduceMul, Nat.reduceSub, Nat.reduceLeDiff, Nat.reduceEqDiff, reduceCtorEq, Int.reduceToNat, Int.reduceLE, Int.reduceLT, Int.reduceNeg, Nat.reducePow, Int.reducePow]; (try simp (disch := omega) only [Eng.wrap_i64]); (repeat ((with_reducible refine And.intro ?_ ?_); (first | exact True.intro | omega | assumption | decide)))) | (refine S.regD ?_; simp only [go_sem, Nat.reduceBEq, Nat.reduceAdd, Nat.reduceMul, Nat.reduceSub, Nat.reduceLeDiff, Nat.reduceEqDiff, reduceCtorEq, Int.reduceToNat, Int.reduceLE, Int.reduceLT, Int.reduceNeg, Nat.reducePow, Int.reducePow]; (try simp (disch := omega) only [Eng.wrap_i64]); (repeat ((with_reducible refine And.intro ?_ ?_); (first | exact True.intro | omega | assumption | decide)))))))
    refine S.next (x := i) (i + 1) (by omega) (by omega) (Ent.mk _ _ 1 1 ?_ ?_ ?_ (by intro h; first | (exact Nat.succ_pos _) | cases h))
    · (repeat' (first | exact trivial | rfl | refine frOK_cons ?_ rfl ?_))
    · (repeat' (first | exact trivial | refine rsOK_cons rfl rfl ?_ | refine rsOK_cons rfl (row_bd _ _) ?_ | refine rsOK_cons ?_ (row_bd _ _) ?_ | refine rsOK_cons ?_ rfl ?_))
      rw [hfm, ← List.append_assoc]
    · exact ⟨Nat.one_pos, trivial⟩
  · have hi' : i = s.xs.length := by omega
    subst hi'
    (repeat (first | refine S.seq ?_ | refine S.block ?_ | refine S.blk ?_ | refine S.skip ?_ | refine S.exit rfl ?_ | (refine S.reg ?_; simp only [go_sem, Nat.reduceBEq, Nat.reduceAdd, Nat.reduceMul, Nat.reduceSub, Nat.reduceLeDiff, Nat.reduceEqDiff, reduceCtorEq, Int.reduceToNat, Int.reduceLE, Int.reduceLT, Int.reduceNeg, Nat.reducePow, Int.reducePow]; (try simp (disch := omega) only [Eng.wrap_i64]); (repeat ((with_reducible refine And.intro ?_ ?_); (first | exact True.intro | omega | assumption | decide)))) | (refine S.regD ?_; simp only [go_sem, Nat.reduceBEq, Nat.reduceAdd, Nat.reduceMul, Nat.reduceSub, Nat.reduceLeDiff, Nat.reduceEqDiff, reduceCtorEq, Int.reduceToNat, Int.reduceLE, Int.reduceLT, Int.reduceNeg, Nat.reducePow, Int.reducePow]; (try simp (disch := omega) only [Eng.wrap_i64]); (repeat ((with_reducible refine And.intro ?_ ?_); (first | exact True.intro | omega | assumption | decide))))))
    rw [List.take_length, ← List.append_assoc]
    exact end_writer
end Go.Proofs.Ytaicmkocmnikjaa
