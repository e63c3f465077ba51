/- The walk of pure operations is sound. -/
import Derived.Test.YtaicmkocmnikjaaInv
namespace Go.Proofs.Ytaicmkocmnikjaa.Eng
set_option linter.all false
open Go Go.RowKit

/-- the operation yields a value that the symbol stands for, in this world and in every later one -/
def Yl (E : Ctx) (ν : List Value) (st : St) (a : Act) (w : World) (oo : Oper) (s : SV) : Prop :=
  ∃ y, Den ν st.sl s y ∧ ∀ w', Below w.heap.size w w' → (execOp a.eval oo).run E.P w' = .ok (.value y) w'

section
variable {E : Ctx} {ν : List Value} {st : St} {a : Act} {w : World}

theorem opS (hG : Good E ν st a w) {p : Bool} (hp : p = true) {x : Operand} (hr : req p (opv st x)) : Den ν st.sl (strip (opv st x)) (a.eval x) := strip_den hp hr (hG.opv x)

theorem Yl.of {oo : Oper} {s : SV} (y : Value) (hd : Den ν st.sl s y) (h : ∀ w', (execOp a.eval oo).run E.P w' = .ok (.value y) w') : Yl E ν st a w oo s := ⟨y, hd, fun w' _ => h w'⟩

theorem den_v {x y : Value} (h : Den ν st.sl (.v x) y) : y = x := by simpa only [Den] using h

theorem beq_bytes (a b : ByteArray) : (a.toList == b.toList) = decide (a = b) := by
  rw [← beq_toListBytes]
  by_cases h : a = b
  · subst h
    rw [beq_toListBytes]
    simp
  · simp only [h, decide_false]
    rw [beq_toListBytes]
    cases he : (a.toList == b.toList) with
    | false => rfl
    | true =>
      rw [← beq_toListBytes] at he
      exact absurd (show a = b by
        have h2 : a.data = b.data := by
          have : (a.data == b.data) = true := he
          exact eq_of_beq this
        cases a; cases b; simp_all) h

theorem str_add {P : Program} {t : TypeId} {X Y : Operand} (a b : ByteArray) (h : a.size + b.size ≤ 9223372036854775807) (w' : World) :
    (do eqGuard .add t X Y (.string a) (.string b); binOp .add t (.string a) (.string b) : Sem Value).run P w' = .ok (.string (a ++ b)) w' := by
  have h' : ¬ ((a.size + b.size : Nat) : Int) > IntKind.i64.max := by
    simp only [IntKind.max, IntKind.signed, IntKind.bits, if_true]
    omega
  simp only [eqGuard, binOp, Op.stringOp, if_neg h']
  simp

theorem binP_sound {op : BinOp} {x y : Value} {p : Bool} {K : SV → Prop} (hp : p = true) (t : TypeId) (X Y : Operand) (P : Program) (h : binP op x y p K) :
    ∃ r, K (.v r) ∧ ∀ w', (do eqGuard op t X Y x y; binOp op t x y : Sem Value).run P w' = .ok r w' := by
  unfold binP at h
  split at h
  all_goals first
    | (exact h.elim)
    | (obtain ⟨hk, hz, h⟩ := h; subst hk; have hz := hz hp; exact ⟨_, h, fun w' => by simp [eqGuard, binOp, Op.intDiv, hz]⟩)
    | (obtain ⟨hk, h⟩ := h; subst hk; exact ⟨_, h, fun w' => by simp [eqGuard, binOp, Op.intArith, Op.intCmp, go_sem]; try rfl⟩)
    | (obtain ⟨hk, h⟩ := h; have hk : _ ≤ (_ : Int) := hk hp; exact ⟨_, h, fun w' => by simp [eqGuard, binOp, Op.shift, Int.not_lt.2 hk]⟩)
    | (obtain ⟨hk, h⟩ := h; have hk := hk hp; exact ⟨_, h, fun w' => str_add _ _ hk w'⟩)
    | (refine ⟨_, h, fun w' => ?_⟩; simp [eqGuard, binOp, Op.stringOp, beq_bytes])

theorem cell_below {w' : World} {ad : Addr} {v : Value} (hb : Below w.heap.size w w') (h : w.cell? ad = some v) : w'.cell? ad = some v :=
  (hb.cell (World.block_lt_of_cell? w ad h)).trans h

theorem add_add' (ad : Addr) (i j : Nat) : (ad.add i).add j = ad.add (i + j) := by
  unfold Addr.add
  by_cases hi : i = 0 <;> by_cases hj : j = 0 <;> simp [hi, hj, Nat.add_assoc]
theorem add_zero_off (b i j : Nat) : (⟨b, i, none⟩ : Addr).add j = ⟨b, i + j, none⟩ := by
  unfold Addr.add
  split <;> simp_all

/-- reading a variable of a type whose cells are known -/
theorem run_loadVar_cells {P : Program} (w : World) (t : TypeId) (i : TypeInfo) (ad : Addr) (vs : List Value) (d : TypeDesc) (hi : P.info? t = some i) (hu : P.underlying t = some d) (ha : isAggD (some d) = true) (hl : vs.length = i.size)
    (hc : ∀ j v, vs[j]? = some v → w.cell? (ad.add j) = some v) : (loadVar t ad).run P w = .ok (.agg vs.toArray) w := by
  have h2 := run_loadCells_list (P := P) w ad vs hc
  rw [hl] at h2
  have hagg : (isAgg t).run P w = .ok true w := by
    unfold isAgg
    rw [Sem.run_bind, run_underlying hu w]
    cases d <;> simp_all [isAggD]
  simp [loadVar, Sem.run_bind, hagg, sizeOf, typeInfo, hi, h2]
theorem run_loadVar_cell {P : Program} (w : World) (t : TypeId) (d : TypeDesc) (ad : Addr) (v : Value) (hu : P.underlying t = some d) (ha : isAggD (some d) = false) (hc : w.cell? ad = some v) :
    (loadVar t ad).run P w = .ok v w := by
  have hagg : (isAgg t).run P w = .ok false w := by
    unfold isAgg
    rw [Sem.run_bind, run_underlying hu w]
    cases d <;> simp_all [isAggD]
  simp [loadVar, Sem.run_bind, hagg, hc]

theorem run_fieldAt {P : Program} (w : World) (s : TypeId) (f : Nat) (fl : Field) (sz : Nat) (ad : Addr) (h : fieldOf P s f = some (fl, sz)) (h0 : sz ≠ 0) :
    (Instr.fieldAt s (.pointer (some ad)) f).run P w = .ok (.pointer (some (ad.add fl.offset))) w := by
  unfold fieldOf at h
  split at h
  · rename_i fields hu
    split at h
    · rename_i fl' hf
      split at h
      · rename_i i hi
        injection h with h
        injection h with h1 h2
        subst h1
        simp [Instr.fieldAt, run_underlying hu, hf, Instr.sureAddr, fieldPlace, sizeOf, typeInfo, hi, h2, h0]
      · cases h
    · cases h
  · cases h

theorem pickP_sound {c : Bool} {x y : SV} {K : SV → Prop} (h : pickP c x y K) :
    ∃ s, K s ∧ ∀ (ν : List Value) (sl : List Sli) (vx vy : Value), Den ν sl x vx → Den ν sl y vy → Den ν sl s (if c then vx else vy) := by
  unfold pickP at h
  split at h
  · refine ⟨_, h, fun ν sl vx vy hx hy => ?_⟩
    simp only [Den] at hx hy ⊢
    subst hx hy
    cases c <;> rfl
  · obtain ⟨h1, h⟩ := h
    refine ⟨_, h, fun ν sl vx vy hx hy => ?_⟩
    simp only [Den] at hx hy ⊢
    subst hy
    cases c
    · rfl
    · simp [hx.1 (h1 rfl)]
  · obtain ⟨h1, h⟩ := h
    refine ⟨_, h, fun ν sl vx vy hx hy => ?_⟩
    simp only [Den] at hx hy ⊢
    subst hx
    cases c
    · simp [hy.1 (h1 rfl)]
    · rfl
  · obtain ⟨h1, h2, h⟩ := h
    refine ⟨_, h, fun ν sl vx vy hx hy => ?_⟩
    simp only [Den] at hx hy ⊢
    cases c
    · simp [hy.1 (h2 rfl)]
    · simp [hx.1 (h1 rfl)]
  · exact h.elim

theorem oneCell_cells {y : Value} (h : y.oneCell' = true) : y.cells.toList = [y] := by
  cases y <;> simp_all [Value.oneCell', Value.cells]
theorem oneS_den (hG : Good E ν st a w) {s : SV} {y : Value} (h : Den ν st.sl s y) (ho : oneS st s) : y.oneCell' = true := by
  cases s with
  | v x => simp only [Den] at h; subst h; exact ho
  | agg cs => exact ho.elim
  | tup cs => exact ho.elim
  | bp k off => simp only [Den] at h; obtain ⟨b, h1, rfl⟩ := h; rfl
  | rv k =>
    simp only [oneS] at ho
    simp only [Den] at h
    split at ho
    · rename_i hk
      obtain ⟨x, hx, vs, _, _, _, hv⟩ := hG.res k _ hk
      rw [hx] at h
      injection h with h
      subst h
      rcases hv with ⟨hv, _⟩ | ⟨g, cap, cur, hv, _⟩ <;> rw [hv] <;> rfl
    · rename_i o hk
      obtain ⟨x, hx, hok, _⟩ := hG.res k _ hk
      rw [hx] at h
      injection h with h
      subst h
      exact o.one hok
    · exact ho.elim
  | rp k off => simp only [Den] at h; obtain ⟨b, n, c, h1, rfl⟩ := h; rfl
  | sl j =>
    simp only [Den] at h
    obtain ⟨s, hs, rfl⟩ := h
    obtain ⟨q, _, A, c, hv, _⟩ := hG.sls s (List.mem_of_getElem? hs)
    rw [hv]; rfl
  | ep j i off => simp only [Den] at h; obtain ⟨s, A, c, h1, h2, h3, h4, rfl⟩ := h; rfl
  | g p x => exact ho.elim
  | clo f caps => simp only [Den] at h; obtain ⟨vs, h1, rfl⟩ := h; rfl
  | fs _ _ _ => exact ho.elim
  | junk => exact ho.elim
theorem cellsS_den (hG : Good E ν st a w) {s : SV} {y : Value} (h : Den ν st.sl s y) (ho : cellsOK st s) : DenL ν st.sl (cellsS s) y.cells.toList := by
  have one : cellsS s = [s] → oneS st s → DenL ν st.sl (cellsS s) y.cells.toList := fun h1 h2 => by
    rw [h1, oneCell_cells (oneS_den hG h h2)]
    exact ⟨y, [], rfl, h, rfl⟩
  cases s with
  | agg cs =>
    simp only [Den] at h
    obtain ⟨vs, h1, rfl⟩ := h
    simpa [cellsS, Value.cells] using h1
  | v x =>
    simp only [Den] at h
    subst h
    cases y with
    | agg cs => simp only [cellsS, Value.cells]; exact DenL.vs _
    | _ => exact one rfl ho
  | _ => exact one rfl ho

theorem aggCells_den {s : SV} {y : Value} {cs : List SV} (h : Den ν st.sl s y) (hc : aggCells s = some cs) : ∃ vs, y = .agg vs ∧ DenL ν st.sl cs vs.toList := by
  unfold aggCells at hc
  split at hc
  · injection hc with hc; subst hc
    simp only [Den] at h
    obtain ⟨vs, h1, rfl⟩ := h
    exact ⟨_, rfl, by simpa using h1⟩
  · injection hc with hc; subst hc
    simp only [Den] at h
    subst h
    exact ⟨_, rfl, DenL.vs _⟩
  · cases hc

/-! one operation after the other -/
theorem y_pure {oo : Oper} {x : Value} (h : ∀ w', (execOp a.eval oo).run E.P w' = .ok (.value x) w') {s : SV} (hd : Den ν st.sl s x) : Yl E ν st a w oo s := Yl.of x hd h

theorem loadP_sound {sz : Nat} {s : SV} {K : SV → Prop} {t : TypeId} {i : TypeInfo} {d : TypeDesc} (hi : E.P.info? t = some i) (hd : E.P.underlying t = some d) (h : loadP st (isAggD (some d)) sz s K) (hsz : i.size = sz) :
    ∃ r, K r ∧ ∀ ν a w, Good E ν st a w → ∀ x, Den ν st.sl s x → ∃ y, Den ν st.sl r y ∧ ∀ w', Below w.heap.size w w' → (Instr.loadAt t x).run E.P w' = .ok y w' := by
  have hagg : ∀ (ad : Addr) (vs : List Value) (w w' : World), isAggD (some d) = true → vs.length = sz → (∀ j v, vs[j]? = some v → w.cell? (ad.add j) = some v) → Below w.heap.size w w' →
      (Instr.loadAt t (.pointer (some ad))).run E.P w' = .ok (.agg vs.toArray) w' := fun ad vs w w' h1 h2 h3 hb => by
    have := run_loadVar_cells (P := E.P) w' t i ad vs d hi hd h1 (by rw [h2, hsz]) (fun j v hv => cell_below hb (h3 j v hv))
    simp [Instr.loadAt, Instr.sureAddr, this]
  have hone : ∀ (ad : Addr) (v : Value) (w w' : World), isAggD (some d) = false → w.cell? ad = some v → Below w.heap.size w w' →
      (Instr.loadAt t (.pointer (some ad))).run E.P w' = .ok v w' := fun ad v w w' h1 h2 hb => by
    have := run_loadVar_cell (P := E.P) w' t d ad v hd h1 (cell_below hb h2)
    simp [Instr.loadAt, Instr.sureAddr, this]
  unfold loadP at h
  split at h
  · rename_i k off
    split at h
    · rename_i tb cs hk
      cases hA : isAggD (some d) with
      | true =>
        simp only [hA, cond_true] at h
        obtain ⟨hl, h⟩ := h
        refine ⟨_, h, fun ν a w hG x hx => ?_⟩
        simp only [Den] at hx
        obtain ⟨b, hb, rfl⟩ := hx
        obtain ⟨x, hx, b', vs, hb', _, hD, _, hh⟩ := hG.res k _ hk
        rw [hb] at hx
        injection hx with hx
        subst hx
        injection hb' with hb'; injection hb' with hb'; injection hb' with hb'
        subst hb'
        refine ⟨.agg ((vs.drop off).take sz).toArray, ⟨_, (hD.drop off).take sz, rfl⟩, fun w' hw => hagg _ _ w w' hA ?_ ?_ hw⟩
        · rw [List.length_take, List.length_drop, hD.length]; omega
        · intro j v hv
          rw [add_zero_off, cell_of_row w b _ _ _ _ hh]
          rw [List.getElem?_take] at hv
          split at hv
          · simpa [List.getElem?_drop] using hv
          · cases hv
      | false =>
        simp only [hA, cond_false] at h
        split at h
        · rename_i s hs
          refine ⟨_, h, fun ν a w hG x hx => ?_⟩
          simp only [Den] at hx
          obtain ⟨b, hb, rfl⟩ := hx
          obtain ⟨x, hx, b', vs, hb', _, hD, _, hh⟩ := hG.res k _ hk
          rw [hb] at hx
          injection hx with hx
          subst hx
          injection hb' with hb'; injection hb' with hb'; injection hb' with hb'
          subst hb'
          obtain ⟨y, hy, hyd⟩ := hD.get hs
          exact ⟨y, hyd, fun w' hw => hone _ _ w w' hA (by rw [cell_of_row w b _ _ _ _ hh]; simpa using hy) hw⟩
        · exact h.elim
    · exact h.elim
  · rename_i k off
    split at h
    · rename_i te sz' n xs hk
      cases hA : isAggD (some d) with
      | true =>
        simp only [hA, cond_true] at h
        obtain ⟨hl, h⟩ := h
        refine ⟨_, h, fun ν a w hG x hx => ?_⟩
        simp only [Den] at hx
        obtain ⟨b, n', c, hb, rfl⟩ := hx
        obtain ⟨x, hx, vs, hD, _, hown⟩ := hG.res k _ hk
        rw [hb] at hx
        injection hx with hx
        subst hx
        have hcell := hown.cells (g := b) rfl
        refine ⟨.agg ((vs.drop off).take sz).toArray, ⟨_, (hD.drop off).take sz, rfl⟩, fun w' hw => hagg _ _ w w' hA ?_ ?_ hw⟩
        · rw [List.length_take, List.length_drop, hD.length]; omega
        · intro j v hv
          rw [List.getElem?_take] at hv
          split at hv
          · have := hcell (off + j) v (by simpa [List.getElem?_drop] using hv)
            rw [add_zero_off] at this
            rw [add_zero_off]
            simpa using this
          · cases hv
      | false =>
        simp only [hA, cond_false] at h
        split at h
        · rename_i s hs
          refine ⟨_, h, fun ν a w hG x hx => ?_⟩
          simp only [Den] at hx
          obtain ⟨b, n', c, hb, rfl⟩ := hx
          obtain ⟨x, hx, vs, hD, _, hown⟩ := hG.res k _ hk
          rw [hb] at hx
          injection hx with hx
          subst hx
          have hcell := hown.cells (g := b) rfl
          obtain ⟨y, hy, hyd⟩ := hD.get hs
          refine ⟨y, hyd, fun w' hw => hone _ _ w w' hA ?_ hw⟩
          have := hcell off y hy
          rw [add_zero_off] at this
          simpa using this
        · exact h.elim
    · exact h.elim
  · rename_i j i' off
    split at h
    · rename_i s hs
      have reads : ∀ ν a w, Good E ν st a w → ∀ x, Den ν st.sl (.ep j i' off) x → ∃ ad : Addr, x = .pointer (some (ad.add (i'.toNat * s.sz + off))) ∧ (s.at_ i'.toNat).length = s.sz ∧ ∀ j v, (s.at_ i'.toNat)[j]? = some v → w.cell? (ad.add (i'.toNat * s.sz + j)) = some v := by
        intro ν a w hG x hx
        simp only [Den] at hx
        obtain ⟨s', A, c, hs', hv, h0, hn, rfl⟩ := hx
        rw [hs] at hs'
        injection hs' with hs'
        subst hs'
        obtain ⟨q, hq, A', c', hv', hm, hlen, _, hc⟩ := hG.sls s (List.mem_of_getElem? hs)
        rw [hv] at hv'
        injection hv' with e1 e2 e3
        have hin : i'.toNat < s.n := by omega
        obtain ⟨ad, e4, hS, hcell⟩ := hc (by omega)
        rw [← e1] at e4
        injection e4 with e4
        subst e4
        refine ⟨A, rfl, hlen _ hin, fun j v hv => ?_⟩
        have h1 := hcell _ hin j v hv
        have hb : (A.add (i'.toNat * s.sz + j)).block = A.block := by unfold Addr.add; split <;> rfl
        have h2 := hG.sn q (List.mem_of_getElem? hq) A.block hS
        rw [← h1]
        exact World.cell?_of_block (by rw [hb]; exact h2.2)
      cases hA : isAggD (some d) with
      | true =>
        simp only [hA, cond_true] at h
        obtain ⟨hl, h⟩ := h
        refine ⟨_, h, fun ν a w hG x hx => ?_⟩
        obtain ⟨ad, rfl, hlen, hcell⟩ := reads ν a w hG x hx
        refine ⟨.agg (((s.at_ i'.toNat).drop off).take sz).toArray, ⟨_, DenL.vs _, rfl⟩, fun w' hw => hagg _ _ w w' hA ?_ ?_ hw⟩
        · rw [List.length_take, List.length_drop, hlen]; omega
        · intro j v hv
          rw [List.getElem?_take] at hv
          split at hv
          · rw [add_add', Nat.add_assoc]
            exact hcell _ _ (by simpa [List.getElem?_drop] using hv)
          · cases hv
      | false =>
        simp only [hA, cond_false] at h
        obtain ⟨hl, h⟩ := h
        refine ⟨_, h, fun ν a w hG x hx => ?_⟩
        obtain ⟨ad, rfl, hlen, hcell⟩ := reads ν a w hG x hx
        refine ⟨_, rfl, fun w' hw => hone _ _ w w' hA ?_ hw⟩
        have hlt : off < (s.at_ i'.toNat).length := by omega
        refine hcell off _ ?_
        rw [List.getD_eq_getElem?_getD, List.getElem?_eq_getElem hlt]
        rfl
    · exact h.elim
  · exact h.elim

theorem fill_splice {ν : List Value} {sl : List Sli} (place : Nat → Option (Nat × Nat)) : ∀ (parts : List (Nat × Value)) (ps : List (Nat × Nat × SV)) (cs : List SV) (vs : List Value),
    parts.length = ps.length → (∀ (j i : Nat) (v : Value), parts[j]? = some (i, v) → ∃ off sz s, ps[j]? = some (off, sz, s) ∧ place i = some (off, sz) ∧ DenL ν sl (cellsS s) v.cells.toList) → DenL ν sl cs vs → spliceOK st cs ps →
    ∃ us : List Value, Instr.fill place vs.toArray parts = some us.toArray ∧ DenL ν sl (splice cs ps) us
  | [], ps, cs, vs, hl, _, hD, _ => by
    have : ps = [] := by cases ps <;> simp_all
    subst this
    exact ⟨vs, rfl, hD⟩
  | (i, v) :: parts, ps, cs, vs, hl, hp, hD, hok => by
    cases ps with
    | nil => simp at hl
    | cons q ps =>
      obtain ⟨off, sz, s⟩ := q
      obtain ⟨off', sz', s', hq, hpl, hds⟩ := hp 0 i v rfl
      simp at hq
      obtain ⟨rfl, rfl, rfl⟩ := hq
      simp only [spliceOK] at hok
      obtain ⟨_, h1, h2, h3⟩ := hok
      have hvl : v.cells.size = sz := by rw [← Array.length_toList, hds.length, h1]
      have hcl : vs.length = cs.length := hD.length
      have hset : (v.cells.zipIdx.foldl (fun cs (c, j) => cs.setIfInBounds (off + j) c) vs.toArray) = (vs.take off ++ v.cells.toList ++ vs.drop (off + sz)).toArray := by
        have key : ∀ (l : List Value) (k : Nat) (us : List Value), off + k + l.length ≤ us.length →
            (l.zipIdx k).foldl (fun (cs : Array Value) (x : Value × Nat) => cs.setIfInBounds (off + x.2) x.1) us.toArray = (us.take (off + k) ++ l ++ us.drop (off + k + l.length)).toArray := by
          intro l
          induction l with
          | nil => intro k us h; simp
          | cons c l ih =>
            intro k us h
            simp only [List.length_cons] at h
            simp only [List.zipIdx_cons, List.foldl_cons, List.setIfInBounds_toArray]
            rw [ih (k + 1) _ (by simp; omega)]
            congr 1
            apply List.ext_getElem?
            intro m
            simp only [List.append_assoc, List.getElem?_append, List.length_take, List.length_set, List.getElem?_take, List.getElem?_set, List.length_cons, List.getElem?_drop]
            have e1 : min (off + (k + 1)) us.length = off + k + 1 := by omega
            have e2 : min (off + k) us.length = off + k := by omega
            rw [e1, e2]
            by_cases c1 : m < off + k
            · have : m < off + k + 1 := by omega
              have c2 : ¬ off + k = m := by omega
              simp [c1, this, c2]
              omega
            · by_cases c2 : m = off + k
              · subst c2
                simp
                omega
              · have c3 : ¬ m < off + k + 1 := by omega
                rw [if_neg c3, if_neg c1]
                have c4 : m - (off + k) = (m - (off + k + 1)) + 1 := by omega
                rw [c4]
                by_cases c5 : m - (off + k + 1) < l.length
                · simp [c5]
                · have c6 : ¬ (m - (off + k + 1) + 1 < l.length + 1) := by omega
                  rw [if_neg c5, if_neg c6]
                  have c7 : ¬ off + k = off + (k + 1) + l.length + (m - (off + k + 1) - l.length) := by omega
                  rw [if_neg c7]
                  congr 1
                  omega
        have h0 := key v.cells.toList 0 vs (by rw [Array.length_toList, hvl, hcl]; simpa using h2)
        rw [Array.length_toList, hvl, Nat.add_zero] at h0
        rw [← h0, ← Array.foldl_toList, Array.toList_zipIdx]
      obtain ⟨us, hf, hD'⟩ := fill_splice place parts ps _ (vs.take off ++ v.cells.toList ++ vs.drop (off + sz)) (by simpa using hl) (fun j i' v' hj => hp (j + 1) i' v' (by simpa using hj))
        (((hD.take off).append hds).append (hD.drop (off + sz))) h3
      refine ⟨us, ?_, hD'⟩
      have hbad : (v.cells.size ≠ sz || off + v.cells.size > vs.toArray.size) = false := by
        have h4 : ¬ off + v.cells.size > vs.toArray.size := by
          rw [hvl, List.size_toArray, hcl]; omega
        simp [hvl] at h4 ⊢
        omega
      simp only [Instr.fill, hpl, hbad, Bool.false_eq_true, if_false, hset]
      exact hf

theorem part_agg {P : Program} (t : TypeId) (i : TypeInfo) (d : TypeDesc) (cs : Array Value) (off : Nat) (hi : P.info? t = some i) (hd : P.underlying t = some d) (ha : isAggD (some d) = true) (w : World) :
    (part t cs off).run P w = .ok (.agg (cs.extract off (off + i.size))) w := by
  have hagg : (isAgg t).run P w = .ok true w := by
    unfold isAgg
    rw [Sem.run_bind, run_underlying hd w]
    cases d <;> simp_all [isAggD]
  simp [part, hagg, sizeOf, typeInfo, hi]
theorem part_one {P : Program} (t : TypeId) (d : TypeDesc) (cs : Array Value) (off : Nat) (v : Value) (hd : P.underlying t = some d) (ha : isAggD (some d) = false) (hv : cs[off]? = some v) (w : World) :
    (part t cs off).run P w = .ok v w := by
  have hagg : (isAgg t).run P w = .ok false w := by
    unfold isAgg
    rw [Sem.run_bind, run_underlying hd w]
    cases d <;> simp_all [isAggD]
  simp [part, hagg, hv]

theorem partsOf_get {P : Program} {fields : Array Field} : ∀ {ps : List (Nat × Operand)} {r : List (Nat × Nat × Operand)}, partsOf P fields ps = some r →
    ps.length = r.length ∧ ∀ (j f : Nat) (x : Operand), ps[j]? = some (f, x) → ∃ (fl : Field) (i : TypeInfo), fields[f]? = some fl ∧ P.info? fl.type = some i ∧ r[j]? = some (fl.offset, i.size, x)
  | [], r, h => by simp [partsOf] at h; subst h; simp
  | (f, x) :: ps, r, h => by
    simp only [partsOf] at h
    split at h
    · rename_i fl hf
      split at h
      · rename_i i r' hi hr
        injection h with h
        subst h
        obtain ⟨h1, h2⟩ := partsOf_get hr
        refine ⟨by simp [h1], fun j f' x' hj => ?_⟩
        cases j with
        | zero => simp at hj; obtain ⟨rfl, rfl⟩ := hj; exact ⟨fl, i, hf, hi, rfl⟩
        | succ j => simp at hj; obtain ⟨fl', i', h3, h4, h5⟩ := h2 j f' x' hj; exact ⟨fl', i', h3, h4, by simpa using h5⟩
      · cases h
    · cases h

theorem partsV_get {p : Bool} : ∀ {r : List (Nat × Nat × Operand)}, reqs p st r → (partsV st r).length = r.length ∧
    ∀ (j off sz : Nat) (x : Operand), r[j]? = some (off, sz, x) → req p (opv st x) ∧ (partsV st r)[j]? = some (off, sz, strip (opv st x))
  | [], _ => by simp [partsV]
  | (o, z, x) :: r, h => by
    simp only [reqs] at h
    obtain ⟨h1, h2⟩ := partsV_get (p := p) h.2
    refine ⟨by simp [partsV, h1], fun j off sz x' hj => ?_⟩
    cases j with
    | zero => simp at hj; obtain ⟨rfl, rfl, rfl⟩ := hj; exact ⟨h.1, rfl⟩
    | succ j => simp at hj; obtain ⟨h3, h4⟩ := h2 j off sz x' hj; exact ⟨h3, by simpa [partsV] using h4⟩

theorem spliceOK_cells {ps : List (Nat × Nat × SV)} : ∀ {cs : List SV}, spliceOK st cs ps → ∀ (j off sz : Nat) (s : SV), ps[j]? = some (off, sz, s) → cellsOK st s := by
  induction ps with
  | nil => intro cs h j off sz s hj; simp at hj
  | cons q ps ih =>
    obtain ⟨o, z, x⟩ := q
    intro cs h j off sz s hj
    simp only [spliceOK] at h
    cases j with
    | zero => simp at hj; obtain ⟨rfl, rfl, rfl⟩ := hj; exact h.1
    | succ j => simp at hj; exact ih h.2.2.2 j off sz s hj

theorem run_sizes {P : Program} (w : World) : ∀ (fs : List Field), (∀ f ∈ fs, (P.info? f.type).isSome = true) →
    (fs.mapM fun f => do pure (f.offset, ← sizeOf f.type) : Sem (List (Nat × Nat))).run P w = .ok (fs.map fun f => (f.offset, P.cellsOf f.type)) w
  | [], _ => by simp
  | f :: fs, h => by
    have h1 := h f (by simp)
    obtain ⟨i, hi⟩ := Option.isSome_iff_exists.1 h1
    have h2 := run_sizes w fs (fun g hg => h g (by simp [hg]))
    simp only [List.mapM_cons, Sem.run_bind, sizeOf, typeInfo, run_program, Result.andThen_ok, hi, Sem.run_pure] at h2 ⊢
    rw [h2]
    simp [Program.cellsOf, hi]

theorem slice_oneCell {x : Value} {vs : List Value} (h : x = .agg vs.toArray) : x.cells.toList = vs := by subst h; rfl

theorem build_sound {t : TypeId} {ps : Array (Nat × Operand)} {fields : Array Field} {i : TypeInfo} {z : Value} {r : List (Nat × Nat × Operand)} {p : Bool}
    (ht : E.P.underlying t = some (.struct fields)) (hi : E.P.info? t = some i) (hz : i.zero = some z) (hall : (fields.toList.all fun f => (E.P.info? f.type).isSome) = true) (hpo : partsOf E.P fields ps.toList = some r)
    (hq : reqs p st r) (hs : spliceOK st (z.cells.toList.map .v) (partsV st r)) (hG : Good E ν st a w) (hp : p = true) :
    ∃ y, Den ν st.sl (.agg (splice (z.cells.toList.map .v) (partsV st r))) y ∧ ∀ w', (Instr.build t (ps.map fun (i, x) => (i, a.eval x))).run E.P w' = .ok y w' := by
  obtain ⟨hl, hg⟩ := partsOf_get hpo
  obtain ⟨hl2, hg2⟩ := partsV_get hq
  have hall' : ∀ f ∈ fields.toList, (E.P.info? f.type).isSome = true := List.all_eq_true.1 hall
  obtain ⟨us, hf, hD⟩ := fill_splice (st := st) (ν := ν) (sl := st.sl) (((fields.toList.map fun f => (f.offset, E.P.cellsOf f.type)).toArray)[·]?) (ps.toList.map fun (i, x) => (i, a.eval x)) (partsV st r) (z.cells.toList.map .v) z.cells.toList
    (by simp [hl, hl2]) (fun j f v hj => by
      simp only [List.getElem?_map, Option.map_eq_some_iff] at hj
      obtain ⟨⟨f', x⟩, hj, he⟩ := hj
      simp only [Prod.mk.injEq] at he
      obtain ⟨rfl, rfl⟩ := he
      obtain ⟨fl, i', hfl, hi', hrj⟩ := hg j f' x hj
      obtain ⟨hrq, hpv⟩ := hg2 j _ _ x hrj
      refine ⟨_, _, _, hpv, ?_, cellsS_den hG (opS hG hp hrq) (spliceOK_cells hs j _ _ _ hpv)⟩
      have hfl' : fields.toList[f']? = some fl := by simpa using hfl
      simp [hfl', Program.cellsOf, hi']) (DenL.vs _) hs
  refine ⟨.agg us.toArray, ⟨us, hD, rfl⟩, fun w' => ?_⟩
  have hm := run_sizes (P := E.P) w' fields.toList hall'
  have hm' : (fields.mapM fun f => do pure (f.offset, ← sizeOf f.type) : Sem (Array (Nat × Nat))).run E.P w' = .ok (fields.toList.map fun f => (f.offset, E.P.cellsOf f.type)).toArray w' := by
    rw [Array.mapM_eq_mapM_toList, Sem.run_map, hm]
    rfl
  have hzr : (zeroValue t).run E.P w' = .ok z w' := by simp [zeroValue, typeInfo, hi, hz]
  unfold Instr.build
  simp only [Sem.run_bind, hzr, Result.andThen_ok, run_underlying ht w', hm']
  have e1 : (ps.map fun (i, x) => (i, a.eval x)).toList = ps.toList.map fun (i, x) => (i, a.eval x) := by simp
  rw [e1]
  simp only [Array.toArray_toList] at hf
  rw [hf]
  rfl

theorem run_equal_bool {P : Program} (t : TypeId) (ht : P.underlying t = some .bool) (x y : Bool) (w' : World) : (Op.equal t (.bool x) (.bool y)).run P w' = .ok (x == y) w' := by
  have h : ∀ d : Nat, (Op.equalIn (d + 1) t (.bool x) (.bool y)).run P w' = .ok (x == y) w' := fun d => by
    unfold Op.equalIn
    rw [Sem.run_bind, run_underlying ht]
    rfl
  exact h 9999

theorem bytesU_ints : ∀ {vs : List Value} {l : List UInt8}, bytesU vs = some l → ∃ ns : List Int, vs = ns.map (Value.int .u8) ∧ ns.map (fun n => UInt8.ofNat n.toNat) = l
  | [], l, h => by simp only [bytesU, Option.some.injEq] at h; subst h; exact ⟨[], rfl, rfl⟩
  | v :: vs, l, h => by
    unfold bytesU at h
    split at h
    · rename_i heq; cases heq
    · rename_i n r heq
      injection heq with e1 e2
      subst e1 e2
      split at h
      · rename_i l' hl'
        injection h with h
        subst h
        obtain ⟨ns, h1, h2⟩ := bytesU_ints hl'
        exact ⟨n :: ns, by rw [h1]; rfl, by simp [h2]⟩
      · cases h
    · cases h
theorem push_fold (ns : List Int) : ∀ (s : ByteArray), ns.foldl (fun (r : ByteArray) n => r.push (UInt8.ofNat n.toNat)) s = ⟨s.data ++ (ns.map (fun n => UInt8.ofNat n.toNat)).toArray⟩ := by
  induction ns with
  | nil => intro s; simp
  | cons n ns ih =>
    intro s
    rw [List.foldl_cons, ih]
    simp [ByteArray.push]
/-- the bytes of a slice, as a string -/
theorem run_toStr {P : Program} (w : World) (s d e : TypeId) (hs : P.underlying s = some (.slice e)) (he : P.underlying e = some (.int .u8)) (hd : P.underlying d = some .string)
    (A : Option Addr) (m c : Nat) (vs : List Value) (l : List UInt8) (hl : vs.length = m) (hc : 0 < m → ∃ ad, A = some ad ∧ ∀ j u, vs[j]? = some u → w.cell? (ad.add j) = some u) (hb : bytesU vs = some l) :
    (convert s d (.slice A m c)).run P w = .ok (.string ⟨l.toArray⟩) w := by
  rw [run_convert_bytes_string w s d e A m c hs he hd]
  obtain ⟨ns, rfl, rfl⟩ := bytesU_ints hb
  cases A with
  | none =>
    have hm : m = 0 := by
      rcases Nat.eq_zero_or_pos m with h0 | h0
      · exact h0
      · obtain ⟨ad, h, _⟩ := hc h0; cases h
    have hns : ns = [] := by
      have : ns.length = 0 := by simpa [hm] using hl
      exact List.eq_nil_of_length_eq_zero this
    subst hns
    rfl
  | some ad =>
    have hcells : ∀ j u, (ns.map (Value.int .u8))[j]? = some u → w.cell? (ad.add j) = some u := by
      intro j u hu
      rcases Nat.eq_zero_or_pos m with h0 | h0
      · have : ns.length = 0 := by simpa [h0] using hl
        have hns := List.eq_nil_of_length_eq_zero this
        subst hns
        simp at hu
      · obtain ⟨ad', h, hcc⟩ := hc h0
        injection h with h
        subst h
        exact hcc j u hu
    have h2 := run_loadCells_list (P := P) w ad (ns.map (Value.int .u8)) hcells
    rw [hl] at h2
    rw [run_bytesToString w ad m c ns h2, push_fold]
    simp

theorem run_slice_str {P : Program} (w : World) (t : TypeId) (ht : P.underlying t = some .string) (s : ByteArray) (lo hi : Option Value) (l h : Int) (k1 k2 : IntKind)
    (hlo : (lo = none ∧ l = 0) ∨ lo = some (.int k1 l)) (hhi : (hi = none ∧ h = s.size) ∨ hi = some (.int k2 h)) (h0 : 0 ≤ l) (h1 : l ≤ h) (h2 : h ≤ s.size) :
    (Instr.sliceAt t (.string s) lo hi none).run P w = .ok (.string (s.extract l.toNat h.toNat)) w := by
  have e2 : ((h.toNat : Nat) : Int) = h := by omega
  have hb : (Instr.sliceBounds false s.size s.size lo hi none).run P w = .ok (l.toNat, h.toNat, s.size) w := by
    rcases hlo with ⟨rfl, rfl⟩ | rfl <;> rcases hhi with ⟨rfl, rfl⟩ | rfl
    · simp [Instr.sliceBounds]
    · have c1 : 0 ≤ h ∧ h ≤ (s.size : Int) := ⟨by omega, h2⟩
      simp [Instr.sliceBounds, Instr.sliceBound, asIntOf, c1]
    · have c1 : 0 ≤ l ∧ l ≤ (s.size : Int) := ⟨h0, by omega⟩
      simp [Instr.sliceBounds, Instr.sliceBound, asIntOf, c1]
    · have c1 : 0 ≤ h ∧ h ≤ (s.size : Int) := ⟨by omega, h2⟩
      have c2 : 0 ≤ l ∧ l ≤ h := ⟨h0, h1⟩
      have c3 : 0 ≤ h := by omega
      have c4 : max h 0 = h := by omega
      simp [Instr.sliceBounds, Instr.sliceBound, asIntOf, c1, c2, c3, h0, h1, e2, c4]
  unfold Instr.sliceAt
  simp only [Sem.run_bind, run_underlying ht, Result.andThen_ok]
  unfold Instr.slice
  simp only [Sem.run_bind, run_underlying ht, Result.andThen_ok, Option.isSome_none, Bool.false_eq_true, if_false, hb, Sem.run_pure]

set_option maxHeartbeats 1000000 in
theorem pureP_sound {p : Bool} {o : IOp} {K : SV → Prop} {oo : Oper} (his : Is E.P oo.type oo.op o) (h : pureP st p o K) :
    ∃ s, K s ∧ ∀ ν a w, Good E ν st a w → p = true → Yl E ν st a w oo s := by
  obtain ⟨dst, op, ty, pos, after, guard⟩ := oo
  simp only at his
  cases his with
  | mv x => exact ⟨_, h.2, fun ν a w hG hp => Yl.of _ (opS hG hp h.1) fun w' => rfl⟩
  | asg x => exact ⟨_, h.2, fun ν a w hG hp => Yl.of _ (opS hG hp h.1) fun w' => rfl⟩
  | pick c x y =>
    simp only [pureP] at h
    obtain ⟨h1, h⟩ := h
    split at h
    · rename_i bc hbc
      obtain ⟨s, hs, hd⟩ := pickP_sound h
      refine ⟨s, hs, fun ν a w hG hp => Yl.of _ (hd ν st.sl _ _ (hG.opv x) (hG.opv y)) fun w' => ?_⟩
      have h2 := opS hG hp h1
      rw [hbc] at h2
      have h3 := den_v h2
      simp [execOp, h3, asBool]
    · exact h.elim
  | bin b t yt x y =>
    simp only [pureP] at h
    obtain ⟨h1, h2, h⟩ := h
    split at h
    · rename_i vx vy hx hy
      cases hpp : p with
      | false =>
        rw [hpp] at h
        have : ∃ r, K r := by
          unfold binP at h
          split at h <;> first | (exact h.elim) | (exact ⟨_, h⟩) | (exact ⟨_, h.2⟩) | (exact ⟨_, h.2.2⟩)
        obtain ⟨r, hr⟩ := this
        exact ⟨r, hr, fun ν a w hG hp => by cases hp⟩
      | true =>
        obtain ⟨r, hr, hrun⟩ := binP_sound hpp t x y E.P h
        refine ⟨_, hr, fun ν a w hG _ => Yl.of r rfl fun w' => ?_⟩
        have e1 := opS hG hpp h1
        have e2 := opS hG hpp h2
        rw [hx] at e1
        rw [hy] at e2
        have e1 := den_v e1
        have e2 := den_v e2
        have := hrun w'
        simp only [execOp, e1, e2, Sem.run_bind, Sem.run_pure] at this ⊢
        rw [this]
        rfl
    · exact h.elim
  | beqT t yt x y ht =>
    simp only [pureP] at h
    obtain ⟨h1, h2, h⟩ := h
    split at h
    · rename_i vx vy hx hy
      refine ⟨_, h, fun ν a w hG hp => Yl.of (.bool (vx == vy)) rfl fun w' => ?_⟩
      have e1 := opS hG hp h1
      have e2 := opS hG hp h2
      rw [hx] at e1
      rw [hy] at e2
      have e1 := den_v e1
      have e2 := den_v e2
      simp [execOp, e1, e2, eqGuard, binOp, run_equal_bool t ht]
    · exact h.elim
  | beqF t yt x y ht =>
    simp only [pureP] at h
    obtain ⟨h1, h2, h⟩ := h
    split at h
    · rename_i vx vy hx hy
      refine ⟨_, h, fun ν a w hG hp => Yl.of (.bool (vx != vy)) rfl fun w' => ?_⟩
      have e1 := opS hG hp h1
      have e2 := opS hG hp h2
      rw [hx] at e1
      rw [hy] at e2
      have e1 := den_v e1
      have e2 := den_v e2
      simp [execOp, e1, e2, eqGuard, binOp, run_equal_bool t ht]
      cases vx <;> cases vy <;> rfl
    · exact h.elim
  | un u t x =>
    simp only [pureP] at h
    obtain ⟨h1, h⟩ := h
    split at h
    · rename_i b hb
      refine ⟨_, h, fun ν a w hG hp => Yl.of _ rfl fun w' => ?_⟩
      have e1 := opS hG hp h1
      rw [hb] at e1
      have e1 := den_v e1
      simp [execOp, e1, Op.unary]
    · rename_i k q hb
      refine ⟨_, h, fun ν a w hG hp => Yl.of _ rfl fun w' => ?_⟩
      have e1 := opS hG hp h1
      rw [hb] at e1
      have e1 := den_v e1
      simp [execOp, e1, Op.unary, Op.intArith]
    · exact h.elim
  | conv s d k k' x hs hd =>
    simp only [pureP] at h
    obtain ⟨h1, h⟩ := h
    split at h
    · rename_i kk q hb
      refine ⟨_, h, fun ν a w hG hp => Yl.of _ rfl fun w' => ?_⟩
      have e1 := opS hG hp h1
      rw [hb] at e1
      have e1 := den_v e1
      simp [execOp, e1, convert, run_underlying hs, run_underlying hd, Conv.intToInt]
    · exact h.elim
  | fld s f fl sz x d hf hd =>
    simp only [pureP] at h
    obtain ⟨h1, h⟩ := h
    split at h
    · rename_i cs hcs
      obtain ⟨fields, i, hu, hfl, hi, hsz⟩ : ∃ fields i, E.P.underlying s = some (.struct fields) ∧ fields[f]? = some fl ∧ E.P.info? fl.type = some i ∧ i.size = sz := by
        unfold fieldOf at hf
        (repeat' split at hf) <;> simp_all
      cases hA : isAggD (some d) with
      | true =>
        simp only [hA, cond_true] at h
        refine ⟨_, h, fun ν a w hG hp => ?_⟩
        obtain ⟨vs, e1, hD⟩ := aggCells_den (opS hG hp h1) hcs
        refine Yl.of (.agg (((vs.toList.drop fl.offset).take sz)).toArray) ⟨_, (hD.drop _).take _, rfl⟩ fun w' => ?_
        simp only [execOp, e1, Instr.field, run_underlying hu, Sem.run_bind, Result.andThen_ok, hfl, asAgg, Sem.run_pure, part_agg fl.type i d vs fl.offset hi hd hA w', hsz]
        congr 3
        apply Array.ext'
        simp
      | false =>
        simp only [hA, cond_false] at h
        split at h
        · rename_i r hr
          refine ⟨_, h, fun ν a w hG hp => ?_⟩
          obtain ⟨vs, e1, hD⟩ := aggCells_den (opS hG hp h1) hcs
          obtain ⟨y, hy, hyd⟩ := hD.get hr
          refine Yl.of y hyd fun w' => ?_
          have hy' : vs[fl.offset]? = some y := by simpa using hy
          simp only [execOp, e1, Instr.field, run_underlying hu, Sem.run_bind, Result.andThen_ok, hfl, asAgg, Sem.run_pure, part_one fl.type d vs fl.offset y hd hA hy' w']
        · exact h.elim
    · exact h.elim
  | ext x i =>
    simp only [pureP] at h
    obtain ⟨h1, h⟩ := h
    split at h
    · rename_i cs hcs
      split at h
      · rename_i r hr
        refine ⟨_, h, fun ν a w hG hp => ?_⟩
        have e1 := opS hG hp h1
        rw [hcs] at e1
        simp only [Den] at e1
        obtain ⟨vs, hD, e1⟩ := e1
        obtain ⟨y, hy, hyd⟩ := hD.get hr
        refine Yl.of y hyd fun w' => ?_
        simp [execOp, e1, Instr.extract, hy]
      · exact h.elim
    · exact h.elim
  | build t ps fields i z r ht hi hz hall hpo =>
    simp only [pureP] at h
    obtain ⟨h1, h2, h⟩ := h
    refine ⟨_, h, fun ν a w hG hp => ?_⟩
    obtain ⟨y, hd, hrun⟩ := build_sound ht hi hz hall hpo h1 h2 hG hp
    refine Yl.of y hd fun w' => ?_
    simp [execOp, hrun w']
  | load t x i d hi hd =>
    simp only [pureP] at h
    obtain ⟨h1, h⟩ := h
    obtain ⟨r, hr, hall⟩ := loadP_sound hi hd h rfl
    refine ⟨r, hr, fun ν a w hG hp => ?_⟩
    obtain ⟨y, hy, hrun⟩ := hall ν a w hG _ (opS hG hp h1)
    refine ⟨y, hy, fun w' hw => ?_⟩
    simp [execOp, hrun w' hw]
  | nilck x =>
    simp only [pureP] at h
    obtain ⟨h1, h⟩ := h
    have fin : ∀ (s : SV), strip (opv st x) = s → (∀ ν y, Den ν st.sl s y → (∃ ad, y = .pointer (some ad)) ∨ ∃ f u c, y = .func (.func f) u c) → ∀ ν a w, Good E ν st a w → p = true →
        Yl E ν st a w { dst, op := .nilCheck x, type := ty, pos, after, guard } s := fun s he hk ν a w hG hp => by
      have e1 := opS hG hp h1
      rw [he] at e1
      refine Yl.of _ e1 fun w' => ?_
      rcases hk ν _ e1 with ⟨ad, e2⟩ | ⟨f, u, c, e2⟩ <;> simp [execOp, e2]
    split at h
    · rename_i he; exact ⟨_, h, fin _ he fun ν y hy => by simp only [Den] at hy; obtain ⟨b, _, rfl⟩ := hy; exact .inl ⟨_, rfl⟩⟩
    · rename_i he; exact ⟨_, h, fin _ he fun ν y hy => by simp only [Den] at hy; obtain ⟨s, A, c, _, _, _, _, rfl⟩ := hy; exact .inl ⟨_, rfl⟩⟩
    · rename_i he; exact ⟨_, h, fin _ he fun ν y hy => by simp only [Den] at hy; obtain ⟨b, n, c, _, rfl⟩ := hy; exact .inl ⟨_, rfl⟩⟩
    · rename_i he; exact ⟨_, h, fin _ he fun ν y hy => by simp only [Den] at hy; exact .inr ⟨_, _, _, hy⟩⟩
    · rename_i he; exact ⟨_, h, fin _ he fun ν y hy => by simp only [Den] at hy; obtain ⟨vs, _, rfl⟩ := hy; exact .inr ⟨_, _, _, rfl⟩⟩
    · exact h.elim
  | faddr s f fl sz x hf h0 =>
    simp only [pureP] at h
    obtain ⟨h1, h⟩ := h
    split at h
    · rename_i k o he
      refine ⟨_, h, fun ν a w hG hp => ?_⟩
      have e1 := opS hG hp h1
      rw [he] at e1
      simp only [Den] at e1
      obtain ⟨b, hb, e1⟩ := e1
      refine Yl.of (.pointer (some ⟨b, o + fl.offset, none⟩)) ⟨b, hb, rfl⟩ fun w' => ?_
      have := run_fieldAt (P := E.P) w' s f fl sz ⟨b, o, none⟩ hf h0
      rw [add_zero_off] at this
      simp [execOp, e1, this]
    · rename_i j q o he
      refine ⟨_, h, fun ν a w hG hp => ?_⟩
      have e1 := opS hG hp h1
      rw [he] at e1
      simp only [Den] at e1
      obtain ⟨s', A, c, hs, hv, hq0, hqn, e1⟩ := e1
      refine Yl.of (.pointer (some (A.add (q.toNat * s'.sz + (o + fl.offset))))) ⟨s', A, c, hs, hv, hq0, hqn, rfl⟩ fun w' => ?_
      have := run_fieldAt (P := E.P) w' s f fl sz (A.add (q.toNat * s'.sz + o)) hf h0
      rw [add_add', Nat.add_assoc] at this
      simp [execOp, e1, this]
    · rename_i k o he
      refine ⟨_, h, fun ν a w hG hp => ?_⟩
      have e1 := opS hG hp h1
      rw [he] at e1
      simp only [Den] at e1
      obtain ⟨b, n, c, hb, e1⟩ := e1
      refine Yl.of (.pointer (some ⟨b, o + fl.offset, none⟩)) ⟨b, n, c, hb, rfl⟩ fun w' => ?_
      have := run_fieldAt (P := E.P) w' s f fl sz ⟨b, o, none⟩ hf h0
      rw [add_zero_off] at this
      simp [execOp, e1, this]
    · exact h.elim
  | iaddr t e ie x i ht hi =>
    simp only [pureP] at h
    obtain ⟨h1, h2, h⟩ := h
    split at h
    · rename_i j kk q hx hq
      split at h
      · rename_i s hs
        obtain ⟨hsz, hb, h⟩ := h
        refine ⟨_, h, fun ν a w hG hp => ?_⟩
        have e1 := opS hG hp h1
        have e2 := opS hG hp h2
        rw [hx] at e1
        rw [hq] at e2
        have e2 := den_v e2
        simp only [Den] at e1
        obtain ⟨s', hs', e1⟩ := e1
        rw [hs] at hs'
        injection hs' with hs'
        subst hs'
        obtain ⟨hb0, hbn⟩ := hb hp
        obtain ⟨qq, _, A, c, hv, _, _, _, hc⟩ := hG.sls s (List.mem_of_getElem? hs)
        obtain ⟨ad, rfl, _⟩ := hc (by omega)
        rw [hv] at e1
        refine Yl.of (.pointer (some (ad.add (q.toNat * s.sz + 0)))) ⟨s, ad, c, hs, hv, hb0, hbn, rfl⟩ fun w' => ?_
        simp [execOp, e1, e2, Instr.indexAt, asIntOf, run_underlying ht, hb0, hbn, sizeOf, typeInfo, hi, hsz]
      · exact h.elim
    · rename_i k kk q hx hq
      split at h
      · rename_i te z n xs hk
        obtain ⟨hsz, hb, h⟩ := h
        refine ⟨_, h, fun ν a w hG hp => ?_⟩
        have e1 := opS hG hp h1
        have e2 := opS hG hp h2
        rw [hx] at e1
        rw [hq] at e2
        have e2 := den_v e2
        simp only [Den] at e1
        obtain ⟨hb0, hbn⟩ := hb hp
        obtain ⟨xk, hxk, vs, hD, _, hown⟩ := hG.res k _ hk
        rw [hxk] at e1
        injection e1 with e1
        rcases hown.2 with ⟨_, hn0⟩ | ⟨g, cap, cur, hv, _⟩
        · omega
        · rw [hv] at e1 hxk
          have e1 := e1.symm
          refine Yl.of (.pointer (some ⟨g, q.toNat * ie.size, none⟩)) ⟨g, n, cap, hxk, rfl⟩ fun w' => ?_
          have := add_zero_off g 0 (q.toNat * ie.size)
          rw [Nat.zero_add] at this
          simp [execOp, e1, e2, Instr.indexAt, asIntOf, run_underlying ht, hb0, hbn, sizeOf, typeInfo, hi, this]
      · exact h.elim
    · exact h.elim
  | idxs t x i ht =>
    simp only [pureP] at h
    obtain ⟨h1, h2, h⟩ := h
    split at h
    · rename_i s kk q hx hq
      obtain ⟨hb, h⟩ := h
      refine ⟨_, h, fun ν a w hG hp => ?_⟩
      have e1 := opS hG hp h1
      have e2 := opS hG hp h2
      rw [hx] at e1
      rw [hq] at e2
      have e1 := den_v e1
      have e2 := den_v e2
      obtain ⟨hb0, hbn⟩ := hb hp
      have hlt : q.toNat < s.size := by omega
      refine Yl.of _ rfl fun w' => ?_
      have hg : s[q.toNat]? = some s[q.toNat] := by simp [hlt]
      have hd : s.data.toList.getD q.toNat 0 = s[q.toNat] := by
        have hl : q.toNat < s.data.toList.length := by simpa using hlt
        rw [List.getD_eq_getElem?_getD, List.getElem?_eq_getElem hl]
        rfl
      simp only [execOp, e1, e2, Instr.index, asIntOf, run_underlying ht, Sem.run_bind, Result.andThen_ok, Sem.run_pure, hb0, if_true, hg, hd]
    · exact h.elim
  | lenS c t x hc hat ha ht =>
    simp only [pureP] at h
    obtain ⟨h1, h⟩ := h
    obtain ⟨cal, ⟨args⟩, ⟨ats⟩⟩ := c
    simp only at hc hat ha
    subst hc hat ha
    split at h
    · rename_i s hx
      refine ⟨_, h, fun ν a w hG hp => ?_⟩
      have e1 := opS hG hp h1
      rw [hx] at e1
      have e1 := den_v e1
      refine Yl.of _ rfl fun w' => ?_
      simp [execOp, resolve, invoke, builtin, Builtin.len_, run_underlying ht, e1, goInt]
    · exact h.elim
  | lenL c t e x hc hat ha ht =>
    simp only [pureP] at h
    obtain ⟨h1, h⟩ := h
    obtain ⟨cal, ⟨args⟩, ⟨ats⟩⟩ := c
    simp only at hc hat ha
    subst hc hat ha
    split at h
    · rename_i j hx
      split at h
      · rename_i s hs
        refine ⟨_, h, fun ν a w hG hp => ?_⟩
        have e1 := opS hG hp h1
        rw [hx] at e1
        simp only [Den] at e1
        obtain ⟨s', hs', e1⟩ := e1
        rw [hs] at hs'
        injection hs' with hs'
        subst hs'
        obtain ⟨q, _, A, cc, hv, _⟩ := hG.sls s (List.mem_of_getElem? hs)
        rw [hv] at e1
        refine Yl.of _ rfl fun w' => ?_
        simp [execOp, resolve, invoke, builtin, Builtin.len_, run_underlying ht, e1, goInt]
      · exact h.elim
    · rename_i k hx
      split at h
      · rename_i te sz n xs hk
        refine ⟨_, h, fun ν a w hG hp => ?_⟩
        have e1 := opS hG hp h1
        rw [hx] at e1
        simp only [Den] at e1
        obtain ⟨xk, hxk, vs, _, _, hown⟩ := hG.res k _ hk
        rw [hxk] at e1
        injection e1 with e1
        have e1 := e1.symm
        refine Yl.of _ rfl fun w' => ?_
        rcases hown.2 with ⟨hv, hn⟩ | ⟨g, cap, cur, hv, _⟩
        · rw [hv] at e1
          simp [execOp, resolve, invoke, builtin, Builtin.len_, run_underlying ht, e1, goInt, hn]
        · rw [hv] at e1
          simp [execOp, resolve, invoke, builtin, Builtin.len_, run_underlying ht, e1, goInt]
      · exact h.elim
    · rename_i hx
      refine ⟨_, h, fun ν a w hG hp => ?_⟩
      have e1 := opS hG hp h1
      rw [hx] at e1
      have e1 := den_v e1
      refine Yl.of _ rfl fun w' => ?_
      simp [execOp, resolve, invoke, builtin, Builtin.len_, run_underlying ht, e1, goInt]
    · exact h.elim
  | toStr s d e x hs he hd =>
    simp only [pureP] at h
    obtain ⟨h1, h⟩ := h
    split at h
    · rename_i k hx
      split at h
      · rename_i te sz n xs hk
        obtain ⟨rfl, h⟩ := h
        split at h
        · rename_i l hl
          refine ⟨_, h, fun ν a w hG hp => ?_⟩
          have e1 := opS hG hp h1
          rw [hx] at e1
          simp only [Den] at e1
          obtain ⟨xk, hxk, vs, hD, _, hown⟩ := hG.res k _ hk
          rw [hxk] at e1
          injection e1 with e1
          have hbu := bytesV_den hD hl
          refine ⟨_, rfl, fun w' hw => ?_⟩
          have hrun : (convert s d xk).run E.P w' = .ok (.string ⟨l.toArray⟩) w' := by
            have hlen := hown.1
            rcases hown.2 with ⟨hv, hn⟩ | ⟨g, cap, cur, hv, _⟩
            · rw [hv]
              exact run_toStr w' s d e hs he hd none 0 0 vs l (by rw [hlen, hn]) (fun h0 => absurd h0 (by omega)) hbu
            · have hc := hown.cells (g := g) (by rw [hv]; rfl)
              rw [hv]
              exact run_toStr w' s d e hs he hd _ n cap vs l (by rw [hlen]; omega) (fun _ => ⟨_, rfl, fun j u hu => cell_below hw (hc j u hu)⟩) hbu
          simp [execOp, ← e1, hrun]
        · exact h.elim
      · exact h.elim
    · rename_i j hx
      split at h
      · rename_i q hq
        obtain ⟨hsz, h⟩ := h
        split at h
        · rename_i l hl
          refine ⟨_, h, fun ν a w hG hp => ?_⟩
          have e1 := opS hG hp h1
          rw [hx] at e1
          simp only [Den] at e1
          obtain ⟨s', hs', e1⟩ := e1
          rw [hq] at hs'
          injection hs' with hs'
          subst hs'
          obtain ⟨qq, hqq, A, c, hv, _, hlen, _, hc⟩ := hG.sls q (List.mem_of_getElem? hq)
          rw [hv] at e1
          refine ⟨_, rfl, fun w' hw => ?_⟩
          have flat : ∀ (n : Nat), (∀ i, i < n → (q.at_ i).length = 1) → ((List.range n).flatMap q.at_).length = n ∧ ∀ j u, ((List.range n).flatMap q.at_)[j]? = some u → j < n ∧ (q.at_ j)[0]? = some u := by
            intro n
            induction n with
            | zero => intro _; simp
            | succ n ih =>
              intro hh
              obtain ⟨i1, i2⟩ := ih (fun i hi => hh i (by omega))
              have hn := hh n (by omega)
              rw [List.range_succ, List.flatMap_append]
              refine ⟨by rw [List.length_append, i1]; simp [hn], fun j u hu => ?_⟩
              rw [List.getElem?_append] at hu
              split at hu
              · obtain ⟨h3, h4⟩ := i2 j u hu; exact ⟨by omega, h4⟩
              · rename_i hge
                rw [i1] at hge hu
                simp at hu
                have hj : j - n < (q.at_ n).length := (List.getElem?_eq_some_iff.1 hu).1
                have : j = n := by omega
                subst this
                rw [Nat.sub_self] at hu
                exact ⟨by omega, hu⟩
          obtain ⟨f1, f2⟩ := flat q.n (fun i hi => by rw [hlen i hi, hsz])
          have hrun := run_toStr w' s d e hs he hd A q.n c _ l f1 (fun h0 => by
            obtain ⟨ad, hA, hS, hcell⟩ := hc h0
            refine ⟨ad, hA, fun j u hu => ?_⟩
            obtain ⟨h3, h4⟩ := f2 j u hu
            have h5 := hcell j h3 0 u h4
            rw [hsz] at h5
            simp only [Nat.mul_one, Nat.add_zero] at h5
            have hb : (ad.add j).block = ad.block := by unfold Addr.add; split <;> rfl
            have h6 := hG.sn qq (List.mem_of_getElem? hqq) ad.block hS
            rw [← h5]
            exact World.cell?_of_block (by rw [hb]; exact (hw.block _ h6.1).trans h6.2)) hl
          simp [execOp, e1, hrun]
        · exact h.elim
      · exact h.elim
    · rename_i hx
      refine ⟨_, h, fun ν a w hG hp => ?_⟩
      have e1 := opS hG hp h1
      rw [hx] at e1
      have e1 := den_v e1
      refine Yl.of _ rfl fun w' => ?_
      have hrun := run_toStr w' s d e hs he hd none 0 0 [] [] rfl (fun h0 => absurd h0 (by omega)) rfl
      simp [execOp, e1, hrun]
    · exact h.elim
  | slcs t x lo hi ht =>
    simp only [pureP] at h
    obtain ⟨h1, h⟩ := h
    split at h
    · rename_i s hx
      obtain ⟨h2, h3, h⟩ := h
      split at h
      · rename_i k1 l k2 hh hl hhh
        obtain ⟨hb, h⟩ := h
        refine ⟨_, h, fun ν a w hG hp => ?_⟩
        have e1 := opS hG hp h1
        rw [hx] at e1
        have e1 := den_v e1
        obtain ⟨b0, b1, b2⟩ := hb hp
        refine Yl.of _ rfl fun w' => ?_
        have elo : (lo.map a.eval = none ∧ l = 0) ∨ lo.map a.eval = some (.int k1 l) := by
          cases lo with
          | none => simp only [sliceBnd, strip] at hl; injection hl with hl; injection hl with _ hl; exact .inl ⟨rfl, hl.symm⟩
          | some o =>
            have e2 : Den ν st.sl (strip (sliceBnd st 0 (some o))) (a.eval o) := opS hG hp h2
            rw [hl] at e2
            exact .inr (by rw [Option.map_some, den_v e2])
        have ehi : (hi.map a.eval = none ∧ hh = s.size) ∨ hi.map a.eval = some (.int k2 hh) := by
          cases hi with
          | none => simp only [sliceBnd, strip] at hhh; injection hhh with hl; injection hl with _ hl; exact .inl ⟨rfl, hl.symm⟩
          | some o =>
            have e2 : Den ν st.sl (strip (sliceBnd st (s.size : Int) (some o))) (a.eval o) := opS hG hp h3
            rw [hhh] at e2
            exact .inr (by rw [Option.map_some, den_v e2])
        have hrun := run_slice_str (P := E.P) w' t ht s _ _ l hh k1 k2 elo ehi b0 b1 b2
        simp [execOp, e1, hrun]
      · exact h.elim
    · exact h.elim
  | max c x y hc ha =>
    simp only [pureP] at h
    obtain ⟨h1, h2, h⟩ := h
    obtain ⟨cal, ⟨args⟩, ats⟩ := c
    simp only at hc ha
    subst hc ha
    split at h
    · rename_i k q k' q' hx hy
      refine ⟨_, h, fun ν a w hG hp => ?_⟩
      have e1 := opS hG hp h1
      have e2 := opS hG hp h2
      rw [hx] at e1
      rw [hy] at e2
      have e1 := den_v e1
      have e2 := den_v e2
      refine Yl.of _ rfl fun w' => ?_
      simp [execOp, resolve, invoke, builtin, Builtin.max_, Builtin.max2, e1, e2]
    · exact h.elim
  | min c x y hc ha =>
    simp only [pureP] at h
    obtain ⟨h1, h2, h⟩ := h
    obtain ⟨cal, ⟨args⟩, ats⟩ := c
    simp only at hc ha
    subst hc ha
    split at h
    · rename_i k q k' q' hx hy
      refine ⟨_, h, fun ν a w hG hp => ?_⟩
      have e1 := opS hG hp h1
      have e2 := opS hG hp h2
      rw [hx] at e1
      rw [hy] at e2
      have e1 := den_v e1
      have e2 := den_v e2
      refine Yl.of _ rfl fun w' => ?_
      simp [execOp, resolve, invoke, builtin, Builtin.min_, Builtin.min2, e1, e2]
    · exact h.elim
  | _ => exact (h : False).elim
end
end Go.Proofs.Ytaicmkocmnikjaa.Eng
