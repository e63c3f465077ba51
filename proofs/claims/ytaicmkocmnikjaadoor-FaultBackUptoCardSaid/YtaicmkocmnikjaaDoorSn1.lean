/- The walk of pure operations is sound. -/
import Derived.Test.YtaicmkocmnikjaaDoorSeq
namespace Go.Proofs.YtaicmkocmnikjaaDoor.Eng
set_option linter.all false
open Go Go.RowKit

/-- the operation yields a value that the symbol stands for, and leaves the world alone -/
def Yl (P : Program) (ν : List Value) (w : World) (O : Nat → Prop) (a : Act) (oo : Oper) (s : C) : Prop :=
  ∃ y, Den ν w O s y ∧ (execOp a.eval oo).run P w = .ok (.value y) w

section
variable {P : Program} {ν : List Value} {rs : List Res} {a : Act} {w : World} {av own0 : Nat → Prop} {n0 : Nat} {ov : Operand → C}

/-- each block of one's own is as said -/
def HR (ν : List Value) (w : World) (O : Nat → Prop) (rs : List Res) : Prop := ∀ (k : Nat) (r : Res), rs[k]? = some r → ∃ x, ν[k]? = some x ∧ ResOK ν w O x r

theorem opS {O : Nat → Prop} {p : Bool} (hp : p = true) {x : Operand} (h : Den ν w O (ov x) (a.eval x)) (hr : req p (ov x)) : Den ν w O (strip (ov x)) (a.eval x) := strip_den hp hr h

theorem den_v {O : Nat → Prop} {x y : Value} (h : Den ν w O (.v x) y) : y = x := by simpa only [Den] using h

theorem beq_bytes (a b : ByteArray) : (a.toList == b.toList) = decide (a = b) := by
  rw [← beq_toListBytes]
  by_cases h : a = b
  · subst h
    rw [beq_toListBytes]
    simp
  · simp only [h, decide_false]
    rw [beq_toListBytes]
    cases he : (a.toList == b.toList) with
    | false => rfl
    | true =>
      rw [← beq_toListBytes] at he
      exact absurd (show a = b by
        have h2 : a.data = b.data := by
          have : (a.data == b.data) = true := he
          exact eq_of_beq this
        cases a; cases b; simp_all) h

theorem str_add {P : Program} {t : TypeId} {X Y : Operand} (a b : ByteArray) (h : a.size + b.size ≤ 9223372036854775807) (w' : World) :
    (do eqGuard .add t X Y (.string a) (.string b); binOp .add t (.string a) (.string b) : Sem Value).run P w' = .ok (.string (a ++ b)) w' := by
  have h' : ¬ ((a.size + b.size : Nat) : Int) > IntKind.i64.max := by
    simp only [IntKind.max, IntKind.signed, IntKind.bits, if_true]
    omega
  simp only [eqGuard, binOp, Op.stringOp, if_neg h']
  simp

theorem binP_sound {op : BinOp} {x y : Value} {p : Bool} {K : C → Prop} (hp : p = true) (t : TypeId) (X Y : Operand) (P : Program) (h : binP op x y p K) :
    ∃ r, K (.v r) ∧ ∀ w', (do eqGuard op t X Y x y; binOp op t x y : Sem Value).run P w' = .ok r w' := by
  unfold binP at h
  split at h
  all_goals first
    | (exact h.elim)
    | (obtain ⟨hk, hz, h⟩ := h; subst hk; have hz := hz hp; exact ⟨_, h, fun w' => by simp [eqGuard, binOp, Op.intDiv, hz]⟩)
    | (obtain ⟨hk, h⟩ := h; subst hk; exact ⟨_, h, fun w' => by simp [eqGuard, binOp, Op.intArith, Op.intCmp, go_sem]; try rfl⟩)
    | (obtain ⟨hk, h⟩ := h; have hk : _ ≤ (_ : Int) := hk hp; exact ⟨_, h, fun w' => by simp [eqGuard, binOp, Op.shift, Int.not_lt.2 hk]⟩)
    | (obtain ⟨hk, h⟩ := h; have hk := hk hp; exact ⟨_, h, fun w' => str_add _ _ hk w'⟩)
    | (refine ⟨_, h, fun w' => ?_⟩; simp [eqGuard, binOp, Op.stringOp, beq_bytes])

theorem add_add' (ad : Addr) (i j : Nat) : (ad.add i).add j = ad.add (i + j) := by
  unfold Addr.add
  by_cases hi : i = 0 <;> by_cases hj : j = 0 <;> simp [hi, hj, Nat.add_assoc]
theorem add_zero_off (b i j : Nat) : (⟨b, i, none⟩ : Addr).add j = ⟨b, i + j, none⟩ := by
  unfold Addr.add
  split <;> simp_all

/-- reading a variable of a type whose cells are known -/
theorem run_loadVar_cells {P : Program} (w : World) (t : TypeId) (i : TypeInfo) (ad : Addr) (vs : List Value) (d : TypeDesc) (hi : P.info? t = some i) (hu : P.underlying t = some d) (ha : isAggD (some d) = true) (hl : vs.length = i.size)
    (hc : ∀ j v, vs[j]? = some v → w.cell? (ad.add j) = some v) : (loadVar t ad).run P w = .ok (.agg vs.toArray) w := by
  have h2 := run_loadCells_list (P := P) w ad vs hc
  rw [hl] at h2
  have hagg : (isAgg t).run P w = .ok true w := by
    unfold isAgg
    rw [Sem.run_bind, run_underlying hu w]
    cases d <;> simp_all [isAggD]
  simp [loadVar, Sem.run_bind, hagg, sizeOf, typeInfo, hi, h2]
theorem run_loadVar_cell {P : Program} (w : World) (t : TypeId) (d : TypeDesc) (ad : Addr) (v : Value) (hu : P.underlying t = some d) (ha : isAggD (some d) = false) (hc : w.cell? ad = some v) :
    (loadVar t ad).run P w = .ok v w := by
  have hagg : (isAgg t).run P w = .ok false w := by
    unfold isAgg
    rw [Sem.run_bind, run_underlying hu w]
    cases d <;> simp_all [isAggD]
  simp [loadVar, Sem.run_bind, hagg, hc]

theorem run_fieldAt {P : Program} (w : World) (s : TypeId) (f : Nat) (fl : Field) (sz : Nat) (ad : Addr) (h : fieldOf P s f = some (fl, sz)) (h0 : sz ≠ 0) :
    (Instr.fieldAt s (.pointer (some ad)) f).run P w = .ok (.pointer (some (ad.add fl.offset))) w := by
  unfold fieldOf at h
  split at h
  · rename_i fields hu
    split at h
    · rename_i fl' hf
      split at h
      · rename_i i hi
        injection h with h
        injection h with h1 h2
        subst h1
        simp [Instr.fieldAt, run_underlying hu, hf, Instr.sureAddr, fieldPlace, sizeOf, typeInfo, hi, h2, h0]
      · cases h
    · cases h
  · cases h

theorem pickP_sound {p c : Bool} {x y : C} {K : C → Prop} (h : pickP p c x y K) :
    ∃ s, K s ∧ ∀ (ν : List Value) (w : World) (O : Nat → Prop) (vx vy : Value), p = true → Den ν w O x vx → Den ν w O y vy → Den ν w O s (if c then vx else vy) := by
  unfold pickP at h
  split at h
  · refine ⟨_, h, fun ν w O vx vy hp hx hy => ?_⟩
    simp only [Den] at hx hy ⊢
    subst hx hy
    cases c <;> rfl
  · obtain ⟨h1, h⟩ := h
    refine ⟨_, h, fun ν w O vx vy hp hx hy => ?_⟩
    simp only [Den] at hx hy ⊢
    subst hy
    cases c
    · rfl
    · simp [hx.1 (h1 hp rfl)]
  · obtain ⟨h1, h⟩ := h
    refine ⟨_, h, fun ν w O vx vy hp hx hy => ?_⟩
    simp only [Den] at hx hy ⊢
    subst hx
    cases c
    · simp [hy.1 (h1 hp rfl)]
    · rfl
  · obtain ⟨h1, h2, h⟩ := h
    refine ⟨_, h, fun ν w O vx vy hp hx hy => ?_⟩
    simp only [Den] at hx hy ⊢
    cases c
    · simp [hy.1 (h2 hp rfl)]
    · simp [hx.1 (h1 hp rfl)]
  · exact h.elim

theorem oneCell_cells {y : Value} (h : y.oneCell' = true) : y.cells.toList = [y] := by
  cases y <;> simp_all [Value.oneCell', Value.cells]
theorem one_den {O : Nat → Prop} {s : C} {y : Value} (h : Den ν w O s y) (ho : s.one = true) : y.oneCell' = true := by
  cases s with
  | v x => simp only [Den] at h; subst h; exact ho
  | agg cs => cases ho
  | tup cs => cases ho
  | sl sz es => simp only [Den, Fz] at h; obtain ⟨A, c, rfl, _⟩ := h; rfl
  | nl => simp only [Den] at h; obtain ⟨A, rfl⟩ := h; rfl
  | ep cs => simp only [Den, Fz] at h; obtain ⟨ad, rfl, _⟩ := h; rfl
  | bp k off => simp only [Den] at h; obtain ⟨b, h1, rfl⟩ := h; rfl
  | rv k => simp only [Den] at h; obtain ⟨_, A, n, c, rfl⟩ := h; rfl
  | rp k z i off => simp only [Den] at h; obtain ⟨b, n, c, h1, rfl⟩ := h; rfl
  | mp k => simp only [Den] at h; obtain ⟨_, r, rfl⟩ := h; rfl
  | wv k z lo n => simp only [Den] at h; obtain ⟨A, c, rfl, _⟩ := h; rfl
  | clo f caps => simp only [Den] at h; obtain ⟨vs, h1, rfl⟩ := h; rfl
  | g p x => cases ho
  | any S => cases ho
  | junk => cases ho
theorem ones_den {O : Nat → Prop} : ∀ {cs : List C} {vs : List Value}, DenL ν w O cs vs → C.ones cs = true → ∀ u ∈ vs, u.oneCell' = true
  | [], vs, h, _ => by simp only [DenL] at h; subst h; simp
  | c :: cs, vs, h, ho => by
    simp only [DenL, C.ones, Bool.and_eq_true] at h ho
    obtain ⟨y, ys, rfl, h1, h2⟩ := h
    intro u hu
    cases List.mem_cons.1 hu with
    | inl e => subst e; exact one_den h1 ho.1
    | inr e => exact ones_den h2 ho.2 u e
theorem cellsS_den {O : Nat → Prop} {s : C} {y : Value} (h : Den ν w O s y) (ho : cellsOK s = true) : DenL ν w O (cellsS s) y.cells.toList := by
  have one : cellsS s = [s] → s.one = true → DenL ν w O (cellsS s) y.cells.toList := fun h1 h2 => by
    rw [h1, oneCell_cells (one_den h h2)]
    exact ⟨y, [], rfl, h, rfl⟩
  cases s with
  | agg cs =>
    simp only [Den] at h
    obtain ⟨vs, h1, rfl⟩ := h
    simpa [cellsS, Value.cells] using h1
  | v x =>
    simp only [Den] at h
    subst h
    cases y with
    | agg cs => simp only [cellsS, Value.cells]; exact DenL.vs _
    | _ => exact one rfl ho
  | _ => exact one rfl ho

theorem aggCells_den {O : Nat → Prop} {s : C} {y : Value} {cs : List C} (h : Den ν w O s y) (hc : aggCells s = some cs) : ∃ vs, y = .agg vs ∧ DenL ν w O cs vs.toList := by
  unfold aggCells at hc
  split at hc
  · injection hc with hc; subst hc
    simp only [Den] at h
    obtain ⟨vs, h1, rfl⟩ := h
    exact ⟨_, rfl, by simpa using h1⟩
  · injection hc with hc; subst hc
    simp only [Den] at h
    subst h
    exact ⟨_, rfl, DenL.vs _⟩
  · cases hc

/-- cells that lie in the world -/
def CellsAt (ν : List Value) (w : World) (O : Nat → Prop) (cs : List C) (ad : Addr) : Prop := ∃ vs, DenL ν w O cs vs ∧ ∀ j v, vs[j]? = some v → w.cell? (ad.add j) = some v

theorem CellsAt.drop {O : Nat → Prop} {cs : List C} {ad : Addr} (n : Nat) (h : CellsAt ν w O cs ad) : CellsAt ν w O (cs.drop n) (ad.add n) := by
  obtain ⟨vs, h1, h2⟩ := h
  refine ⟨vs.drop n, h1.drop n, fun j v hv => ?_⟩
  rw [add_add']
  exact h2 _ _ (by simpa [List.getElem?_drop] using hv)

theorem FzA.cells {O : Nat → Prop} : ∀ {cs : List C} {ad : Addr} {j : Nat}, FzA w O cs ad j → ∃ vs, FzL w O cs vs ∧ (∀ u ∈ vs, u.oneCell' = true) ∧ ∀ i v, vs[i]? = some v → w.cell? (ad.add (j + i)) = some v
  | [], ad, j, _ => ⟨[], by simp [FzL], by simp, by simp⟩
  | c :: cs, ad, j, h => by
    simp only [FzA] at h
    obtain ⟨⟨y, h1, h2, h3⟩, h4⟩ := h
    obtain ⟨vs, k1, k2, k3⟩ := FzA.cells h4
    refine ⟨y :: vs, ⟨y, vs, rfl, h3, k1⟩, ?_, ?_⟩
    · intro u hu
      cases List.mem_cons.1 hu with
      | inl e => subst e; exact h2
      | inr e => exact k2 u e
    · intro i v hv
      cases i with
      | zero => simp at hv; subst hv; exact h1
      | succ i =>
        have := k3 i v (by simpa using hv)
        rw [← this]; congr 2; omega
theorem FzA.of {O : Nat → Prop} : ∀ {cs : List C} {vs : List Value} {ad : Addr} {j : Nat}, FzL w O cs vs → (∀ u ∈ vs, u.oneCell' = true) → (∀ i v, vs[i]? = some v → w.cell? (ad.add (j + i)) = some v) → FzA w O cs ad j
  | [], vs, ad, j, _, _, _ => by simp only [FzA]
  | c :: cs, vs, ad, j, h, h1, h2 => by
    simp only [FzL] at h
    obtain ⟨y, ys, rfl, h3, h4⟩ := h
    simp only [FzA]
    refine ⟨⟨y, h2 0 y rfl, h1 y (by simp), h3⟩, FzA.of h4 (fun u hu => h1 u (by simp [hu])) fun i v hv => ?_⟩
    have := h2 (i + 1) v (by simpa using hv)
    rw [← this]; congr 2; omega
theorem FzA.shift {O : Nat → Prop} : ∀ {cs : List C} {ad : Addr} {i j : Nat}, FzA w O cs ad (i + j) → FzA w O cs (ad.add i) j
  | [], _, _, _, _ => by simp only [FzA]
  | c :: cs, ad, i, j, h => by
    simp only [FzA] at h ⊢
    obtain ⟨⟨y, h1, h2⟩, h3⟩ := h
    exact ⟨⟨y, by rw [add_add']; exact h1, h2⟩, FzA.shift (by rw [← Nat.add_assoc]; exact h3)⟩
theorem FzE.get {O : Nat → Prop} {sz : Nat} : ∀ {es : List (List C)} {ad : Addr} {i k : Nat} {e : List C}, FzE w O sz es ad i → es[k]? = some e → e.length = sz ∧ FzA w O e ad ((i + k) * sz)
  | [], _, _, _, _, _, h => by simp at h
  | e0 :: es, ad, i, 0, e, h, he => by
    simp only [FzE] at h
    simp at he
    subst he
    exact ⟨h.1, h.2.1⟩
  | e0 :: es, ad, i, k + 1, e, h, he => by
    simp only [FzE] at h
    obtain ⟨h1, h2⟩ := FzE.get h.2.2 (by simpa using he)
    exact ⟨h1, by rw [show i + (k + 1) = i + 1 + k by omega]; exact h2⟩
theorem FzE.of {O : Nat → Prop} {sz : Nat} : ∀ {es : List (List C)} {ad : Addr} {i : Nat}, (∀ k e, es[k]? = some e → e.length = sz ∧ FzA w O e ad ((i + k) * sz)) → FzE w O sz es ad i
  | [], _, _, _ => by simp only [FzE]
  | e0 :: es, ad, i, h => by
    simp only [FzE]
    obtain ⟨h1, h2⟩ := h 0 e0 rfl
    refine ⟨h1, h2, FzE.of fun k e he => ?_⟩
    obtain ⟨h3, h4⟩ := h (k + 1) e (by simpa using he)
    exact ⟨h3, by rw [show i + 1 + k = i + (k + 1) by omega]; exact h4⟩
/-- all the cells of the elements -/
theorem FzE.cells {O : Nat → Prop} {sz : Nat} {es : List (List C)} {ad : Addr} (h : FzE w O sz es ad 0) : (∀ e ∈ es, e.length = sz) ∧ ∃ vs, FzL w O es.flatten vs ∧ (∀ u ∈ vs, u.oneCell' = true) ∧ ∀ i v, vs[i]? = some v → w.cell? (ad.add i) = some v := by
  have gen : ∀ (es : List (List C)) (i : Nat), FzE w O sz es ad i → (∀ e ∈ es, e.length = sz) ∧ FzA w O es.flatten ad (i * sz) := by
    intro es
    induction es with
    | nil => intro i _; exact ⟨by simp, by simp only [List.flatten_nil, FzA]⟩
    | cons e es ih =>
      intro i h
      simp only [FzE] at h
      obtain ⟨h1, h2, h3⟩ := h
      obtain ⟨k1, k2⟩ := ih _ h3
      refine ⟨by intro e' he'; cases List.mem_cons.1 he' with | inl q => subst q; exact h1 | inr q => exact k1 e' q, ?_⟩
      simp only [List.flatten_cons]
      have app : ∀ (cs ds : List C) (j : Nat), FzA w O cs ad j → FzA w O ds ad (j + cs.length) → FzA w O (cs ++ ds) ad j := by
        intro cs
        induction cs with
        | nil => intro ds j _ hd; simpa using hd
        | cons c cs ihc =>
          intro ds j hc hd
          simp only [List.cons_append, FzA] at hc ⊢
          exact ⟨hc.1, ihc ds _ hc.2 (by rw [show j + 1 + cs.length = j + (c :: cs).length by simp; omega]; exact hd)⟩
      refine app _ _ _ h2 ?_
      rw [h1, show i * sz + sz = (i + 1) * sz by rw [Nat.add_mul]; omega]
      exact k2
  obtain ⟨h1, h2⟩ := gen es 0 h
  obtain ⟨vs, k1, k2, k3⟩ := FzA.cells h2
  exact ⟨h1, vs, k1, k2, fun i v hv => by have := k3 i v hv; simpa using this⟩

theorem flat_len {α : Type} {sz : Nat} : ∀ {es : List (List α)}, (∀ e ∈ es, e.length = sz) → es.flatten.length = es.length * sz
  | [], _ => by simp
  | e :: es, h => by
    rw [List.flatten_cons, List.length_append, h e (by simp), flat_len (fun e' he => h e' (by simp [he])), List.length_cons, Nat.add_mul]
    omega
theorem flat_seg {α : Type} {sz : Nat} : ∀ {es : List (List α)} {i : Nat} {e : List α}, (∀ e ∈ es, e.length = sz) → es[i]? = some e → (es.flatten.drop (i * sz)).take sz = e
  | [], i, e, _, h => by simp at h
  | e0 :: es, 0, e, hl, h => by
    simp at h
    subst h
    have := hl e0 (by simp)
    simp [List.take_append, this]
  | e0 :: es, i + 1, e, hl, h => by
    have h0 := hl e0 (by simp)
    have := flat_seg (es := es) (i := i) (e := e) (fun e' he => hl e' (by simp [he])) (by simpa using h)
    rw [List.flatten_cons, List.drop_append, h0, List.drop_eq_nil_of_le (by rw [h0, Nat.add_mul]; omega), List.nil_append, show (i + 1) * sz - sz = i * sz by rw [Nat.add_mul]; omega]
    exact this
theorem flat_set {α : Type} {sz : Nat} : ∀ {es : List (List α)} {i : Nat} {c : List α}, (∀ e ∈ es, e.length = sz) → i < es.length → (es.set i c).flatten = es.flatten.take (i * sz) ++ c ++ es.flatten.drop (i * sz + sz)
  | [], i, c, _, h => by simp at h
  | e0 :: es, 0, c, hl, _ => by
    have h0 := hl e0 (by simp)
    simp [List.drop_append, h0]
  | e0 :: es, i + 1, c, hl, h => by
    have h0 := hl e0 (by simp)
    have := flat_set (es := es) (i := i) (c := c) (fun e' he => hl e' (by simp [he])) (by simpa using h)
    have e1 : (i + 1) * sz = e0.length + i * sz := by rw [Nat.add_mul]; omega
    simp only [List.set_cons_succ, List.flatten_cons, this, e1, Nat.add_assoc, List.take_length_add_append, List.drop_length_add_append, List.append_assoc]

/-- the cells behind a pointer of one's own -/
theorem flat_drop {α : Type} {sz : Nat} : ∀ {es : List (List α)} {i : Nat}, (∀ e ∈ es, e.length = sz) → (es.drop i).flatten = es.flatten.drop (i * sz)
  | [], i, _ => by simp
  | e :: es, 0, _ => by simp
  | e :: es, i + 1, h => by
    have he := h e (List.mem_cons_self ..)
    rw [List.drop_succ_cons, flat_drop fun q hq => h q (List.mem_cons_of_mem _ hq), List.flatten_cons, List.drop_append, he]
    have h1 : (i + 1) * sz - sz = i * sz := by rw [Nat.add_mul, Nat.one_mul]; omega
    have h2 : e.drop ((i + 1) * sz) = [] := List.drop_of_length_le (by rw [he, Nat.add_mul, Nat.one_mul]; omega)
    rw [h1, h2, List.nil_append]
theorem flat_take {α : Type} {sz : Nat} : ∀ {es : List (List α)} {i : Nat}, (∀ e ∈ es, e.length = sz) → (es.take i).flatten = es.flatten.take (i * sz)
  | [], i, _ => by simp
  | e :: es, 0, _ => by simp
  | e :: es, i + 1, h => by
    have he := h e (List.mem_cons_self ..)
    rw [List.take_succ_cons, List.flatten_cons, flat_take fun q hq => h q (List.mem_cons_of_mem _ hq), List.flatten_cons, List.take_append, he]
    have h1 : (i + 1) * sz - sz = i * sz := by rw [Nat.add_mul, Nat.one_mul]; omega
    have h2 : e.take ((i + 1) * sz) = e := List.take_of_length_le (by rw [he, Nat.add_mul, Nat.one_mul]; omega)
    rw [h1, h2]
theorem flat_sing {α : Type} : ∀ (l : List α), (l.map fun c => [c]).flatten = l
  | [] => rfl
  | c :: l => by simp [flat_sing l]
theorem DenL.sub {O : Nat → Prop} {cs : List C} {vs : List Value} (h : DenL ν w O cs vs) (i n : Nat) : DenL ν w O ((cs.drop i).take n) ((vs.drop i).take n) := (h.drop i).take n

theorem box_cells {O : Nat → Prop} {t : TypeId} {cs : List C} {b off : Nat} (h : ResOK ν w O (.pointer (some ⟨b, 0, none⟩)) (.box t cs)) : CellsAt ν w O (cs.drop off) ⟨b, off, none⟩ := by
  obtain ⟨b', vs, e, hD, _, hh⟩ := h
  injection e with e; injection e with e; injection e with e
  subst e
  refine ⟨vs.drop off, hD.drop off, fun j v hv => ?_⟩
  rw [add_zero_off, cell_of_row w b _ _ _ _ hh]
  simpa [List.getElem?_drop] using hv
theorem row_cells {O : Nat → Prop} {e sz : Nat} {es : List (List C)} {b n c i off : Nat} {q : List C} (h : ResOK ν w O (.slice (some ⟨b, 0, none⟩) n c) (.row e sz es)) (hq : es[i]? = some q) : CellsAt ν w O (q.drop off) ⟨b, i * sz + off, none⟩ := by
  obtain ⟨hl, vs, hD, _, hown⟩ := h
  have hD := hD.den ν
  have hn : n = es.length := by obtain ⟨A, c', e⟩ := hown.slice; injection e
  subst hn
  have hcell := hown.cells
  refine ⟨((vs.drop (i * sz)).take sz).drop off, ?_, fun j v hv => ?_⟩
  · have := ((hD.drop (i * sz)).take sz).drop off
    rwa [flat_seg hl hq] at this
  · rw [List.getElem?_drop, List.getElem?_take] at hv
    split at hv
    · have := hcell (i * sz + (off + j)) v (by simpa [List.getElem?_drop] using hv)
      rw [add_zero_off] at this ⊢
      rw [← this]; congr 2; simp; omega
    · cases hv

theorem loadCs_sound {agg : Bool} {sz : Nat} {cs : List C} {K : C → Prop} (h : loadCs agg sz cs K) :
    ∃ r, K r ∧ ∀ (P : Program) (t : TypeId) (i : TypeInfo) (d : TypeDesc) (ν : List Value) (w : World) (O : Nat → Prop) (ad : Addr), P.info? t = some i → P.underlying t = some d → isAggD (some d) = agg → i.size = sz → CellsAt ν w O cs ad →
      ∃ y, Den ν w O r y ∧ (Instr.loadAt t (.pointer (some ad))).run P w = .ok y w := by
  cases agg with
  | true =>
    obtain ⟨hl, h⟩ := h
    refine ⟨_, h, fun P t i d ν w O ad hi hd ha hs hc => ?_⟩
    obtain ⟨vs, hD, hcell⟩ := hc
    refine ⟨.agg (vs.take sz).toArray, ⟨_, hD.take sz, rfl⟩, ?_⟩
    have := run_loadVar_cells (P := P) w t i ad (vs.take sz) d hi hd ha (by rw [List.length_take, hD.length, hs]; omega) (fun j v hv => hcell j v (by
      rw [List.getElem?_take] at hv
      split at hv
      · exact hv
      · cases hv))
    simp [Instr.loadAt, Instr.sureAddr, this]
  | false =>
    cases cs with
    | nil => exact h.elim
    | cons c cs =>
      refine ⟨c, h, fun P t i d ν w O ad hi hd ha hs hc => ?_⟩
      obtain ⟨vs, hD, hcell⟩ := hc
      simp only [DenL] at hD
      obtain ⟨y, ys, rfl, h1, h2⟩ := hD
      refine ⟨y, h1, ?_⟩
      have := run_loadVar_cell (P := P) w t d ad y hd ha (by have := hcell 0 y rfl; simpa [Addr.add] using this)
      simp [Instr.loadAt, Instr.sureAddr, this]

theorem loadP_sound {agg : Bool} {sz : Nat} {s : C} {K : C → Prop} (h : loadP rs agg sz s K) :
    ∃ r, K r ∧ ∀ (P : Program) (t : TypeId) (i : TypeInfo) (d : TypeDesc) (ν : List Value) (w : World) (O : Nat → Prop) (x : Value), P.info? t = some i → P.underlying t = some d → isAggD (some d) = agg → i.size = sz → HR ν w O rs →
      Den ν w O s x → ∃ y, Den ν w O r y ∧ (Instr.loadAt t x).run P w = .ok y w := by
  unfold loadP at h
  split at h
  · split at h
    · rename_i k off _ _ cs hk
      obtain ⟨r, hr, hall⟩ := loadCs_sound h
      refine ⟨r, hr, fun P t i d ν w O x hi hd ha hs hG hx => ?_⟩
      simp only [Den] at hx
      obtain ⟨b, hb, rfl⟩ := hx
      obtain ⟨x', hx', hok⟩ := hG _ _ hk
      rw [hb] at hx'
      injection hx' with hx'
      subst hx'
      exact hall P t i d ν w _ _ hi hd ha hs (box_cells hok)
    · exact h.elim
  · split at h
    · rename_i k z i' off _ _ z' es hk
      obtain ⟨hz, h⟩ := h
      subst hz
      split at h
      · rename_i q hq
        obtain ⟨r, hr, hall⟩ := loadCs_sound h
        refine ⟨r, hr, fun P t i d ν w O x hi hd ha hs hG hx => ?_⟩
        simp only [Den] at hx
        obtain ⟨b, n, c, hb, rfl⟩ := hx
        obtain ⟨x', hx', hok⟩ := hG _ _ hk
        rw [hb] at hx'
        injection hx' with hx'
        subst hx'
        exact hall P t i d ν w _ _ hi hd ha hs (row_cells hok hq)
      · exact h.elim
    · exact h.elim
  · obtain ⟨r, hr, hall⟩ := loadCs_sound h
    refine ⟨r, hr, fun P t i d ν w O x hi hd ha hs hG hx => ?_⟩
    simp only [Den, Fz] at hx
    obtain ⟨ad, rfl, _, _, hA⟩ := hx
    obtain ⟨vs, h1, _, h3⟩ := FzA.cells hA
    exact hall P t i d ν w _ _ hi hd ha hs ⟨vs, h1.den ν, fun j v hv => by have := h3 j v hv; simpa using this⟩
  · exact h.elim
end
end Go.Proofs.YtaicmkocmnikjaaDoor.Eng
