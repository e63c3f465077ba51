/- Each effect is sound. -/
import Derived.Lib.AppendZeros
import Derived.Test.YtaicmkocmnikjaaDoorEfs
import Derived.IntWalk
namespace Go.Proofs.YtaicmkocmnikjaaDoor.Eng
set_option linter.all false
open Go Go.RowKit

section
variable {E : Ctx} {P : Program} {ν : List Value} {rs : List Res} {a : Act} {w : World} {av own0 : Nat → Prop} {n0 : Nat} {ov : Operand → C}

theorem run_append_str_any {P : Program} (w : World) (t u ty e : TypeId) (i : TypeInfo) (ht : P.underlying t = some (.slice e)) (hu : P.underlying u = some .string) (hi : P.info? e = some i) (hz : i.zero = some (.int .u8 0))
    (hsize : i.size = 1) (hby : i.bytes = 1) (x : Value) (n : Nat) (xs : List Value) (hx : rowAt w e 1 x n xs) (s : ByteArray) (hb : n + s.size ≤ 140737488355328) :
    ∃ x' w', (Builtin.append_ #[t, u] ty #[x, .string s]).run P w = .ok x' w' ∧ rowAt w' e 1 x' (n + s.size) (xs ++ Lib.strCells s) ∧ Turned w w' (fun b => blockOf x = some b) ∧
      ∀ b, blockOf x' = some b → blockOf x = some b ∨ (w.heap.size ≤ b ∧ b < w'.heap.size) := by
  rcases hx.2 with ⟨rfl, B, rfl⟩ | ⟨g, cap, cur, rfl, hc0, hg, hnc, hcm, hcs, htake⟩
  · have hx0 : xs = [] := List.eq_nil_of_length_eq_zero (by simpa using hx.1)
    subst hx0
    simp only [Nat.zero_add, List.nil_append] at hb ⊢
    rcases Nat.eq_zero_or_pos s.size with h0 | h0
    · refine ⟨.slice B 0 0, w, ?_, ⟨by rw [Lib.strCells_length]; omega, .inl ⟨h0, B, rfl⟩⟩, ⟨rfl, rfl, rfl, Nat.le_refl _, fun _ _ _ => rfl⟩, fun b hb => .inl hb⟩
      have hf := Lib.run_firstCells_string (P := P) w 1 s
      rw [h0] at hf
      have hcs : Lib.strCells s = [] := List.eq_nil_of_length_eq_zero (by rw [Lib.strCells_length, h0])
      cases B <;> simp [Builtin.append_, run_underlying ht, run_underlying hu, sizeOf, typeInfo, hi, hsize, Builtin.lenOf, h0, hf, hcs, storeCells]
    · have fin : (Builtin.append_ #[t, u] ty #[.slice B 0 0, .string s]).run P w = .ok (.slice (some ⟨w.heap.size, 0, none⟩) s.size (grownCap w s.size 0 e)) (w.drew.alloc (.cells ((Lib.strCells s).toArray ++ Builtin.zeroCells #[.int .u8 0] (grownCap w s.size 0 e - s.size)) e)) := by
        cases B with
        | none =>
          have := run_append_nil_string (P := P) w t u ty e i (.int .u8 0) ht hu hi hz s h0 (by omega) (by rw [hby]; omega)
          have e1 : s.data.map (fun b => Value.int .u8 b.toNat) = (Lib.strCells s).toArray := by apply Array.ext'; simp [Lib.strCells]
          rw [e1] at this
          exact this
        | some b =>
          have := Lib.run_append_grow_string (P := P) w t u ty e i (.int .u8 0) ht hu hi hz b 0 0 [] (by simp) (by simp) s (by omega) (by omega) (by rw [Nat.zero_add, nextslicecap_zero h0, hby]; omega)
          have e2 : (Value.int .u8 0).cells = #[.int .u8 0] := rfl
          rw [e2] at this
          simpa using this
      have hge := grownCap_ge w s.size 0 e
      have hcm : grownCap w s.size 0 e ≤ maxLen := grownCap_le_maxLen w s.size 0 e (by simp only [maxLen]; omega)
      refine ⟨_, _, fin, ⟨by rw [Lib.strCells_length]; omega, .inr ⟨w.heap.size, _, _, rfl, by omega, heap_alloc_new w.drew _, hge, hcm, ?_, ?_⟩⟩, ⟨rfl, rfl, rfl, by simp, fun b hb _ => heap_alloc_old w.drew _ hb⟩, fun b hb => ?_⟩
      · simp only [Array.size_append, List.size_toArray, size_zeroCells, Lib.strCells_length]
        simp
        omega
      · simp only [Array.toList_append, Nat.mul_one]
        rw [← Lib.strCells_length]
        exact List.take_left
      · simp only [blockOf] at hb
        split at hb
        · cases hb
        · injection hb with hb
          subst hb
          exact .inr ⟨Nat.le_refl _, by simp⟩
  · have hown : w.ownsRow 0 e 1 (.slice (some ⟨g, 0, none⟩) n cap) n xs := ⟨hx.1, .inr ⟨g, cap, cur, rfl, Nat.zero_le _, hg, hnc, hcm, hcs, htake⟩⟩
    obtain ⟨v', w', hrun, h2, h3, h5⟩ := run_append_str (P := P) w 0 t u ty e i ht hu hi hz hsize hby _ n xs hown s hb (Nat.zero_le _)
    have hb : blockOf (.slice (some ⟨g, 0, none⟩) n cap) = some g := by simp only [blockOf]; rw [if_neg (by omega)]
    refine ⟨v', w', hrun, .of h2, turned_of_grown h3 (fun b hb' => by simp only [Value.ownBlock] at hb'; rw [hb]; exact hb'), fun b hb' => ?_⟩
    obtain ⟨A', c', rfl⟩ := (rowAt.of h2).slice
    have := blockOf_own hb'
    rcases h5 with h5 | h5
    · rw [this] at h5; left; rw [hb]; exact h5.symm
    · rw [this] at h5
      injection h5 with h5
      subst h5
      refine .inr ⟨Nat.le_refl _, ?_⟩
      rcases h2.2 with ⟨hbad, _⟩ | ⟨g', cap', cur', he, _, hh, _⟩
      · injection hbad with q1 _ q3; subst q1; cases hb'
      · injection he with he
        subst he
        simp only [Value.ownBlock] at this
        injection this with this
        subst this
        exact (Array.getElem?_eq_some_iff.1 hh).1

theorem strCells_fz {O : Nat → Prop} (s : ByteArray) : FzL w O (s.data.toList.map byteC).flatten (Lib.strCells s) := by
  unfold Lib.strCells
  induction s.data.toList with
  | nil => simp [FzL]
  | cons b l ih => exact ⟨_, _, rfl, rfl, ih⟩

theorem below_alloc (w : World) (o : Obj) : Below w.heap.size w (w.alloc o) := (Below.refl _ _).alloc (Nat.le_refl _) _
theorem below_of_turned {w w' : World} {F : Nat → Prop} (h : Turned w w' F) (hF : ∀ b, b < w.heap.size → ¬ F b) : Below w.heap.size w w' := ⟨h.os, h.tape, h.output, h.size, fun b hb => h.block b hb (hF b hb)⟩
theorem run_callFunc_ok {P : Program} {f : Nat} (h : callable P f = true) (args : Array Value) (w : World) : (callFunc f args).run P w = .ok (.enter f args) w := by
  unfold callable at h
  split at h
  · rename_i fn hf
    simp only [Bool.and_eq_true, Bool.not_eq_true'] at h
    simp only [callFunc, Sem.run_bind, run_program, Result.andThen_ok, hf, h.1, h.2, Bool.false_eq_true, if_false, Sem.run_pure]
  · cases h

theorem exec_call {a : Act} {c : Call} {f : Nat} {ty : TypeId} {dst : Option Tmp} {pos : String} {after : Array Edge} {guard : Option (Nat × Bool)} (hc : c.callee = .value (.func f)) :
    execOp a.eval { dst, op := .call c, type := ty, pos, after, guard } = callFunc f (c.args.toList.map a.eval).toArray := by
  obtain ⟨cal, args, ats⟩ := c
  simp only at hc
  subst hc
  have : execOp a.eval { dst, op := .call { callee := .value (.func f), args, argTypes := ats }, type := ty, pos, after, guard } = callFunc f (#[] ++ args.map a.eval ++ #[]) := rfl
  rw [this]
  obtain ⟨args⟩ := args
  simp

/-- a store into a block that is known -/
theorem run_store_block {P : Program} {t : TypeId} {i : TypeInfo} {b off : Nat} {te : TypeId} {cur : Array Value} {y : Value} (hi : P.info? t = some i) (hb : w.heap[b]? = some (.cells cur te (0, 0)))
    (hl : y.cells.toList.length = i.size) (hfit : off + i.size ≤ cur.size) (h1 : ∀ u ∈ y.cells.toList, u.oneCell' = true) :
    (Instr.storeAt t (.pointer (some ⟨b, off, none⟩)) y).run P w = .ok () (w.setRow b (cur.toList.take off ++ y.cells.toList ++ cur.toList.drop (off + i.size)).toArray) := by
  have hst := run_storeCells_at P b off te y.cells.toList 0 cur w hb (by rw [hl]; simpa using hfit) h1
  simp only [Nat.add_zero, hl] at hst
  have hs : y.cells.size = i.size := by simpa using hl
  simp [Instr.storeAt, Instr.sureAddr, storeVar, sizeOf, typeInfo, hi, hs, hst]

theorem exec_callv {a : Act} {c : Call} {x : Operand} {f : Nat} {caps : List Value} {ty : TypeId} {dst : Option Tmp} {pos : String} {after : Array Edge} {guard : Option (Nat × Bool)} (hc : c.callee = .value x) (hx : a.eval x = .func (.func f) #[] caps.toArray) :
    execOp a.eval { dst, op := .call c, type := ty, pos, after, guard } = callFunc f (c.args.toList.map a.eval ++ caps).toArray := by
  obtain ⟨cal, args, ats⟩ := c
  simp only at hc
  subst hc
  have : execOp a.eval { dst, op := .call { callee := .value x, args, argTypes := ats }, type := ty, pos, after, guard } = (Deferred.ofValue (a.eval x) (args.map a.eval) >>= fun d => invoke d.target d.args) := rfl
  rw [this, hx]
  obtain ⟨args⟩ := args
  have h2 : (Deferred.ofValue (.func (.func f) #[] caps.toArray) ((⟨args⟩ : Array Operand).map a.eval) >>= fun d => invoke d.target d.args) = callFunc f (#[] ++ (⟨args⟩ : Array Operand).map a.eval ++ caps.toArray) := rfl
  rw [h2]
  simp


theorem mput_find : ∀ (es : List MapEntry) (i : Nat) (kd : TypeDesc) (str : Bool) (key u : Value), ((str = true ∧ kd = .string) ∨ (str = false ∧ ∃ k, kd = .int k)) → keyOK str key = true → (∀ e ∈ es, keyOK str e.key = true) →
    (Instr.findNow kd key es i = some none → mput key u (es.map fun e => (e.key, e.val)) = (es.map fun e => (e.key, e.val)) ++ [(key, u)]) ∧
    (∀ j v, Instr.findNow kd key es i = some (some (j, v)) → i ≤ j ∧ ∃ e, es[j - i]? = some e ∧ keyEq key e.key = true ∧ mput key u (es.map fun e => (e.key, e.val)) = (es.modify (j - i) fun e => { e with key, val := u }).map fun e => (e.key, e.val))
  | [], i, kd, str, key, u, _, _, _ => ⟨fun _ => rfl, fun j v h => by simp [Instr.findNow] at h⟩
  | e :: es, i, kd, str, key, u, hk, h0, h => by
    have h1 := h e (by simp)
    obtain ⟨k1, k2⟩ := mput_find es (i + 1) kd str key u hk h0 (fun e' he => h e' (by simp [he]))
    have same : ∃ b, Instr.sameNow kd key e.key = some b ∧ b = keyEq key e.key := by
      rcases hk with ⟨rfl, rfl⟩ | ⟨rfl, k, rfl⟩
      · obtain ⟨a, rfl⟩ := keyOK_str h0
        obtain ⟨b, hb⟩ := keyOK_str h1
        rw [hb]
        exact ⟨_, rfl, bytes_beq a b⟩
      · obtain ⟨a, rfl⟩ := keyOK_int h0
        obtain ⟨b, hb⟩ := keyOK_int h1
        rw [hb]
        exact ⟨_, rfl, rfl⟩
    obtain ⟨b, hs, hb⟩ := same
    cases hkb : b with
    | true =>
      rw [hkb] at hs hb
      refine ⟨fun hf => by simp [Instr.findNow, hs] at hf, fun j v hf => ?_⟩
      simp [Instr.findNow, hs] at hf
      obtain ⟨rfl, rfl⟩ := hf
      refine ⟨Nat.le_refl _, e, by simp, hb.symm, ?_⟩
      simp [mput, ← hb]
    | false =>
      rw [hkb] at hs hb
      refine ⟨fun hf => ?_, fun j v hf => ?_⟩
      · simp [Instr.findNow, hs] at hf
        simp [mput, ← hb, k1 hf]
      · simp [Instr.findNow, hs] at hf
        obtain ⟨g1, e', g2, g3, g4⟩ := k2 j v hf
        refine ⟨by omega, e', ?_, g3, ?_⟩
        · rw [show j - i = (j - (i + 1)) + 1 by omega]; simpa using g2
        · rw [show j - i = (j - (i + 1)) + 1 by omega]
          simp [mput, ← hb, g4]
theorem keyEq_same {str : Bool} {a b : Value} (ha : keyOK str a = true) (hb : keyOK str b = true) (h : keyEq a b = true) : a = b := by
  cases str with
  | true =>
    obtain ⟨x, rfl⟩ := keyOK_str ha
    obtain ⟨y, rfl⟩ := keyOK_str hb
    simp [keyEq] at h
    rw [h]
  | false =>
    obtain ⟨x, rfl⟩ := keyOK_int ha
    obtain ⟨y, rfl⟩ := keyOK_int hb
    simp [keyEq] at h
    rw [h]
theorem sameBits_key {str : Bool} {a : Value} (ha : keyOK str a = true) : Instr.sameBits 10000 a a = true := by
  cases str with
  | true => obtain ⟨x, rfl⟩ := keyOK_str ha; show (x == x) = true; rw [bytes_beq]; simp
  | false => obtain ⟨x, rfl⟩ := keyOK_int ha; show (IntKind.i64 == IntKind.i64 && x == x) = true; simp
theorem mput_keys {str : Bool} {key u : Value} (h0 : keyOK str key = true) : ∀ {es : List (Value × Value)}, (∀ e ∈ es, keyOK str e.1 = true) → ∀ e ∈ mput key u es, keyOK str e.1 = true
  | [], _, e, he => by simp [mput] at he; subst he; exact h0
  | (k', v') :: es, h, e, he => by
    simp only [mput] at he
    split at he
    · cases List.mem_cons.1 he with
      | inl q => subst q; exact h0
      | inr q => exact h e (by simp [q])
    · cases List.mem_cons.1 he with
      | inl q => subst q; exact h (k', v') (by simp)
      | inr q => exact mput_keys h0 (fun e he => h e (by simp [he])) e q
theorem run_mapUpdate {t e : TypeId} {str : Bool} (hk : keyKind P t = some (str, e)) {b : Nat} {ents : Array MapEntry} {clock : Nat} {key u : Value}
    (hb : w.heap[b]? = some (.map ents clock)) (hks : ∀ x ∈ ents.toList, keyOK str x.key = true) (h0 : keyOK str key = true) :
    ∃ ents' clock', (Instr.mapUpdate t (.map (some b)) key u).run P w = .ok () { w with heap := w.heap.setIfInBounds b (.map ents' clock') } ∧ ents'.toList.map (fun e => (e.key, e.val)) = mput key u (ents.toList.map fun e => (e.key, e.val)) := by
  obtain ⟨k, kd, h1, h2, h3⟩ := keyKind_spec hk
  obtain ⟨r, h4, _⟩ := findNow_spec h3 h0 ents.toList 0 hks
  obtain ⟨m1, m2⟩ := mput_find ents.toList 0 kd str key u h3 h0 hks
  have hg : (getObj b).run P w = .ok (.map ents clock) w := by simp [getObj, Sem.run, hb]
  have hf : (Instr.findKey k key ents.toList).run P w = .ok r w := by
    unfold Instr.findKey
    simp [Sem.run_bind, run_underlying h2, h4]
  have hc := run_checkKey (w := w) h2 h3 false key
  have hset : ∀ es' c', (setObj b (.map es' c')).run P w = .ok () { w with heap := w.heap.setIfInBounds b (.map es' c') } := fun es' c' => by simp [setObj, Sem.run, hb]
  cases r with
  | none =>
    refine ⟨ents.push { key, val := u, born := clock }, clock + 1, ?_, ?_⟩
    · unfold Instr.mapUpdate
      simp only [Sem.run_bind, run_underlying h1, Result.andThen_ok, hg, hc, hf, hset]
    · rw [m1 h4]; simp
  | some q =>
    obtain ⟨j, v⟩ := q
    obtain ⟨_, e', he', hke, hm⟩ := m2 j v h4
    have hko : keyOK str e'.key = true := hks e' (List.mem_of_getElem? he')
    have hsame := keyEq_same h0 hko hke
    have hstay : (Instr.keyThatStays (((ents[j]?).map (·.key)).getD key) key).run P w = .ok key w := by
      have : ((ents[j]?).map (·.key)).getD key = key := by
        have : ents[j]? = some e' := by simpa using he'
        rw [this]; simp [← hsame]
      rw [this]
      unfold Instr.keyThatStays
      rw [if_pos (sameBits_key h0)]
      rfl
    refine ⟨ents.modify j fun e => { e with key, val := u }, clock, ?_, ?_⟩
    · unfold Instr.mapUpdate
      simp only [Sem.run_bind, run_underlying h1, Result.andThen_ok, hg, hc, hf, hstay, hset]
    · rw [hm]; simp

/-- what an effect does, in every world -/
def ERes (E : Ctx) (ov : Operand → C) (rs : List Res) (io : IOp) (oo : Oper) (s : C) (rs' : List Res) (pk : List Nat) : Prop :=
  ∀ (av : Nat → Prop) (ν : List Value) (a : Act) (w : World), RG av E.own0 E.w0.heap.size ν rs w → (∀ b, E.av b → av b) → Frm E.own0 E.w0 w → (∀ x ∈ io.uses, Den ν w (OO av rs ν) (ov x) (a.eval x)) →
    ∀ (K' : Act → World → Prop) (Q : Exit → Act → World → Prop), (∀ y ν' w', RG av E.own0 E.w0.heap.size ν' rs' w' → Mv rs ν w pk rs' ν' w' → Den ν' w' (OO av rs' ν') s y → K' (a.put oo.dst y) w') → oo.wp E.P a w K' Q

theorem ERes.val {io : IOp} {oo : Oper} {s : C} {rs' : List Res} {pk : List Nat} (h : ∀ (av : Nat → Prop) (ν : List Value) (a : Act) (w : World), RG av E.own0 E.w0.heap.size ν rs w → Frm E.own0 E.w0 w → (∀ x ∈ io.uses, Den ν w (OO av rs ν) (ov x) (a.eval x)) →
    ∃ w' y ν', (execOp a.eval oo).run E.P w = .ok (.value y) w' ∧ (RG av E.own0 E.w0.heap.size ν' rs' w' ∧ Mv rs ν w pk rs' ν' w') ∧ Den ν' w' (OO av rs' ν') s y) : ERes E ov rs io oo s rs' pk := by
  intro av ν a w hR _ hF hO K' Q hK
  obtain ⟨w', y, ν', h1, h2, h3⟩ := h av ν a w hR hF hO
  unfold Oper.wp
  rw [h1]
  exact hK y ν' w' h2.1 h2.2 h3
theorem ERes.skip {io : IOp} {oo : Oper} {s : C} {rs' : List Res} {pk : List Nat} (h : ∀ (av : Nat → Prop) (ν : List Value) (a : Act) (w : World), RG av E.own0 E.w0.heap.size ν rs w → Frm E.own0 E.w0 w → (∀ x ∈ io.uses, Den ν w (OO av rs ν) (ov x) (a.eval x)) →
    ∃ w' ν', (execOp a.eval oo).run E.P w = .ok .skip w' ∧ (RG av E.own0 E.w0.heap.size ν' rs' w' ∧ Mv rs ν w pk rs' ν' w') ∧ Den ν' w' (OO av rs' ν') s undef) : ERes E ov rs io oo s rs' pk := by
  intro av ν a w hR _ hF hO K' Q hK
  obtain ⟨w', ν', h1, h2, h3⟩ := h av ν a w hR hF hO
  unfold Oper.wp
  rw [h1]
  exact hK undef ν' w' h2.1 h2.2 h3
theorem ERes.call {io : IOp} {oo : Oper} {s : C} {rs' : List Res} {pk : List Nat} {f : Nat} {cs : List C} (hc : CallT E rs f cs s rs' pk) (h : ∀ (av : Nat → Prop) (ν : List Value) (a : Act) (w : World), RG av E.own0 E.w0.heap.size ν rs w → (∀ x ∈ io.uses, Den ν w (OO av rs ν) (ov x) (a.eval x)) →
    ∃ vs : List Value, (execOp a.eval oo).run E.P w = .ok (.enter f vs.toArray) w ∧ DenL ν w (OO av rs ν) cs vs) : ERes E ov rs io oo s rs' pk := by
  intro av ν a w hR hav hF hO K' Q hK
  obtain ⟨vs, h1, h2⟩ := h av ν a w hR hO
  unfold Oper.wp
  rw [h1]
  refine (hc av ν w vs hR hav hF h2).mono ?_
  rintro e w' ⟨y, ν', rfl, hr, hm, hd⟩
  exact hK y ν' w' hr hm hd

theorem new_box (hR : RG av own0 n0 ν rs w) (t : TypeId) (cs : List C) (vs : List Value) (hD : DenL ν w (OO av rs ν) cs vs) (h1 : ∀ u ∈ vs, u.oneCell' = true) :
    RG av own0 n0 (ν ++ [.pointer (some ⟨w.heap.size, 0, none⟩)]) (rs ++ [.box t cs]) (w.alloc (.cells vs.toArray t)) ∧ Mv rs ν w [] (rs ++ [.box t cs]) (ν ++ [.pointer (some ⟨w.heap.size, 0, none⟩)]) (w.alloc (.cells vs.toArray t)) := by
  refine hR.add (below_alloc w _) (fun b hb => ?_) (fun hkp hnu => ?_)
  · simp only [fp, blockOf, Option.some.injEq] at hb
    subst hb
    exact ⟨Nat.le_refl _, by simp⟩
  · exact ⟨w.heap.size, vs, rfl, DenL.nu hnu (by simp) (DenL.keep hkp hD), h1, by simpa using heap_alloc_new w (.cells vs.toArray t)⟩
theorem bp_den (hR : RG av own0 n0 ν rs w) (b : Nat) (t : TypeId) (cs : List C) (w' : World) (O : Nat → Prop) : Den (ν ++ [.pointer (some ⟨b, 0, none⟩)]) w' O (.bp rs.length 0) (.pointer (some ⟨b, 0, none⟩)) := by
  simp only [Den]
  exact ⟨b, by rw [← hR.len]; simp, rfl⟩

set_option maxHeartbeats 2000000 in
theorem evE_sound {oo : Oper} {io : IOp} (his : Is E.P oo.type oo.op io) {K : C → List Res → List Nat → Prop} (h : evE E ov rs io K) : ∃ s rs' pk, K s rs' pk ∧ ERes E ov rs io oo s rs' pk := by
  obtain ⟨dst, op, ty, pos, after, guard⟩ := oo
  simp only at his
  cases his with
  | alloc t i z hi hz =>
    obtain ⟨h1, h⟩ := h
    refine ⟨_, _, _, h, ERes.val fun av ν a w hR hF hO => ?_⟩
    refine ⟨w.alloc (.cells z.cells t), .pointer (some ⟨w.heap.size, 0, none⟩), _, ?_, ?_, bp_den hR _ t [] _ _⟩
    · simp [execOp, Instr.alloc, newVar, newRow, zeroValue, typeInfo, hi, hz]
    · have := new_box hR t (z.cells.toList.map .v) z.cells.toList (DenL.vs _) (oneAll_spec h1)
      simpa using this
  | box t x =>
    obtain ⟨h0, h1, h2, h⟩ := h
    refine ⟨_, _, _, h, ERes.val fun av ν a w hR hF hO => ?_⟩
    have hc := cellsS_den (opS rfl (hO x (by simp [IOp.uses])) h0) h1
    refine ⟨w.alloc (.cells (a.eval x).cells t), .pointer (some ⟨w.heap.size, 0, none⟩), _, ?_, ?_, bp_den hR _ t [] _ _⟩
    · simp [execOp, Instr.box, newVar, newRow]
    · have := new_box hR t _ _ hc (ones_den hc h2)
      simpa using this
  | store t x y i hi =>
    obtain ⟨h0, h1, h2, h3, h4, h⟩ := h
    split at h
    · rename_i k off hx
      split at h
      · rename_i tb cs hk
        obtain ⟨hfit, h⟩ := h
        refine ⟨_, _, _, h, ERes.skip fun av ν a w hR hF hO => ?_⟩
        have e1 := opS rfl (hO x (by simp [IOp.uses])) h0
        have hc := cellsS_den (opS rfl (hO y (by simp [IOp.uses])) h1) h2
        have ho := ones_den hc h3
        have hlen : (a.eval y).cells.toList.length = i.size := by rw [hc.length, h4]
        rw [hx] at e1
        simp only [Den] at e1
        obtain ⟨b, hb, e1⟩ := e1
        obtain ⟨b', vs, eb, hD, hone, hh⟩ := hR.get hk hb
        injection eb with eb; injection eb with eb; injection eb with eb
        subst eb
        have hrun := run_store_block (P := E.P) (w := w) (y := a.eval y) (off := off) hi hh hlen (by simp [hD.length]; exact hfit) ho
        have hup := hR.upd (r' := .box tb (cs.take off ++ cellsS (strip (ov y)) ++ cs.drop (off + i.size))) hk hb
          (turned_of_grown (w' := w.setRow b (vs.toArray.toList.take off ++ (a.eval y).cells.toList ++ vs.toArray.toList.drop (off + i.size)).toArray) (x := .slice (some ⟨b, 0, none⟩) 0 0) ⟨rfl, rfl, rfl, by simp, fun k _ hk => setRow_other w b k _ (fun e => hk (by rw [e]; rfl))⟩ (fun b' h' => by simp only [Value.ownBlock] at h'; simpa [fp, blockOf] using h'))
          (fun b' hb' => hb') (fun hkp => by
            refine ⟨b, vs.take off ++ (a.eval y).cells.toList ++ vs.drop (off + i.size), rfl, DenL.keep hkp (((hD.take _).append hc).append (hD.drop _)), ?_, ?_⟩
            · intro u hu
              simp only [List.append_assoc, List.mem_append] at hu
              rcases hu with hu | hu | hu
              · exact hone u (List.mem_of_mem_take hu)
              · exact ho u hu
              · exact hone u (List.mem_of_mem_drop hu)
            · rw [setRow_heap w b _ _ tb (0, 0) hh])
        exact ⟨_, _, (by simp only [execOp, e1, Sem.run_bind, hrun]; rfl), hup, by simp [Den]⟩
      · exact h.elim
    · rename_i k z i' off hx
      split at h
      · rename_i te z' es hk
        obtain ⟨hz, hcl, h⟩ := h
        subst hz
        split at h
        · rename_i q hq
          obtain ⟨hfit, h⟩ := h
          refine ⟨_, _, _, h, ERes.skip fun av ν a w hR hF hO => ?_⟩
          have e1 := opS rfl (hO x (by simp [IOp.uses])) h0
          have hc := cellsS_den (opS rfl (hO y (by simp [IOp.uses])) h1) h2
          have ho := ones_den hc h3
          have hlen : (a.eval y).cells.toList.length = i.size := by rw [hc.length, h4]
          rw [hx] at e1
          simp only [Den] at e1
          obtain ⟨b, n', c, hb, e1⟩ := e1
          obtain ⟨hl, vs, hD, hone, hrow⟩ := hR.get hk hb
          have hvl := hD.length
          have hfl := flat_len hl
          have hilt : i' < es.length := (List.getElem?_eq_some_iff.1 hq).1
          have hql := hl q (List.mem_of_getElem? hq)
          have hmul : (i' + 1) * z ≤ es.length * z := Nat.mul_le_mul_right _ hilt
          rw [Nat.add_mul] at hmul
          obtain ⟨hl1, hrow2⟩ := hrow
          rcases hrow2 with ⟨hbad, _⟩ | ⟨g, cap, cur, hv, hc0, hg, hnc, hcm, hcs, htake⟩
          · omega
          · injection hv with hv hv2 hv3
            injection hv with hv; injection hv with hv
            subst hv hv2 hv3
            have hnz : es.length * z ≤ cur.size := by rw [hcs]; exact Nat.mul_le_mul_right _ hnc
            have hrun := run_store_block (P := E.P) (w := w) (y := a.eval y) (off := i' * z + off) hi hg hlen (by omega) ho
            have hset := flat_set (c := q.take off ++ cellsS (strip (ov y)) ++ q.drop (off + i.size)) hl hilt
            have hcfz := hc.fz hcl
            have hqfz : FzL w (OO av rs ν) q ((vs.drop (i' * z)).take z) := by
              have := (hD.drop (i' * z)).take z
              rwa [flat_seg hl hq] at this
            have hnew : FzL w (OO av rs ν) (es.set i' (q.take off ++ cellsS (strip (ov y)) ++ q.drop (off + i.size))).flatten (vs.take (i' * z + off) ++ (a.eval y).cells.toList ++ vs.drop (i' * z + off + i.size)) := by
              rw [hset]
              have h1 := hD.take (i' * z)
              have h2 := hqfz.take off
              have h3 := hqfz.drop (off + i.size)
              have h4 := hD.drop (i' * z + z)
              have := (h1.append ((h2.append hcfz).append h3)).append h4
              have e5 : vs.take (i' * z) ++ (((vs.drop (i' * z)).take z).take off ++ (a.eval y).cells.toList ++ ((vs.drop (i' * z)).take z).drop (off + i.size)) ++ vs.drop (i' * z + z) = vs.take (i' * z + off) ++ (a.eval y).cells.toList ++ vs.drop (i' * z + off + i.size) := by
                have e6 : ((vs.drop (i' * z)).take z).take off = (vs.drop (i' * z)).take off := by rw [List.take_take, Nat.min_eq_left (by omega)]
                have e7 : ((vs.drop (i' * z)).take z).drop (off + i.size) ++ vs.drop (i' * z + z) = vs.drop (i' * z + off + i.size) := by
                  rw [List.drop_take, List.drop_drop]
                  have e8 : vs.drop (i' * z + z) = (vs.drop (i' * z + (off + i.size))).drop (z - (off + i.size)) := by
                    rw [List.drop_drop]; congr 1; omega
                  rw [e8, List.take_append_drop]
                  congr 1; omega
                rw [e6, List.append_assoc, List.append_assoc, e7, ← List.append_assoc, ← List.append_assoc, ← List.take_add, List.append_assoc]
              rw [← e5]
              simpa using this
            have hup := hR.upd (r' := .row te z (es.set i' (q.take off ++ cellsS (strip (ov y)) ++ q.drop (off + i.size)))) hk hb
              (turned_of_grown (w' := w.setRow b (cur.toList.take (i' * z + off) ++ (a.eval y).cells.toList ++ cur.toList.drop (i' * z + off + i.size)).toArray) (x := .slice (some ⟨b, 0, none⟩) 0 0) ⟨rfl, rfl, rfl, by simp, fun k _ hk => setRow_other w b k _ (fun e => hk (by rw [e]; rfl))⟩ (fun b' h' => by simp only [Value.ownBlock] at h'; simp only [fp, blockOf]; rw [if_neg (by omega)]; exact h'))
              (fun b' hb' => hb') (fun hkp => by
                refine ⟨fun e he => ?_, _, FzL.keep hkp hnew, ?_, ?_, .inr ⟨b, c, _, by rw [List.length_set], hc0, setRow_heap w b _ _ te (0, 0) hg, by rw [List.length_set]; exact hnc, hcm, ?_, ?_⟩⟩
                · rcases List.mem_or_eq_of_mem_set he with h' | h'
                  · exact hl e h'
                  · rw [h']
                    simp only [List.length_append, List.length_take, List.length_drop, hql, h4]
                    omega
                · intro u hu
                  simp only [List.append_assoc, List.mem_append] at hu
                  rcases hu with hu | hu | hu
                  · exact hone u (List.mem_of_mem_take hu)
                  · exact ho u hu
                  · exact hone u (List.mem_of_mem_drop hu)
                · simp only [List.length_append, List.length_take, List.length_drop, hlen, List.length_set]; omega
                · simp only [List.size_toArray, List.length_append, List.length_take, List.length_drop, hlen, Array.length_toList]; omega
                · rw [List.length_set]
                  have htk : cur.toList.take (i' * z + off) = vs.take (i' * z + off) := by
                    rw [← htake, List.take_take, Nat.min_eq_left (by omega)]
                  have hdr : (cur.toList.drop (i' * z + off + i.size)).take (es.length * z - (i' * z + off + i.size)) = vs.drop (i' * z + off + i.size) := by
                    rw [← htake, List.drop_take]
                  have hla : (cur.toList.take (i' * z + off) ++ (a.eval y).cells.toList).length = i' * z + off + i.size := by
                    simp only [List.length_append, List.length_take, Array.length_toList, hlen]; omega
                  show ((cur.toList.take (i' * z + off) ++ (a.eval y).cells.toList ++ cur.toList.drop (i' * z + off + i.size)).take (es.length * z)) = _
                  rw [List.take_append, hla, List.take_of_length_le (by omega), hdr, htk])
            exact ⟨_, _, (by simp only [execOp, e1, Sem.run_bind, hrun]; rfl), hup, by simp [Den]⟩
        · exact h.elim
      · exact h.elim
    · exact h.elim
  | call c f hc hcl =>
    obtain ⟨h1, s, rs', pk, h, hT⟩ := h
    exact ⟨s, rs', pk, h, ERes.call hT fun av ν a w hR hO => ⟨_, by rw [exec_call hc, run_callFunc_ok hcl], argsV_den rfl h1 hO⟩⟩
  | callv c x hc =>
    obtain ⟨h0, h1, h⟩ := h
    have hO' : ∀ {av ν w} {a : Act}, (∀ y ∈ (IOp.callv x c.args.toList).uses, Den ν w (OO av rs ν) (ov y) (a.eval y)) → ∀ y ∈ c.args.toList, Den ν w (OO av rs ν) (ov y) (a.eval y) := fun hO y hy => hO y (by simp only [IOp.uses, List.mem_cons]; exact .inr hy)
    split at h
    · rename_i f caps hx
      obtain ⟨hcl, s, rs', pk, h, hT⟩ := h
      refine ⟨s, rs', pk, h, ERes.call hT fun av ν a w hR hO => ?_⟩
      have e1 := opS rfl (hO x (by simp [IOp.uses])) h0
      rw [hx] at e1
      have e1 := den_v e1
      exact ⟨_, by rw [exec_callv hc e1, run_callFunc_ok hcl], (argsV_den rfl h1 (hO' hO)).append (DenL.vs _)⟩
    · rename_i f caps hx
      obtain ⟨hcl, s, rs', pk, h, hT⟩ := h
      refine ⟨s, rs', pk, h, ERes.call hT fun av ν a w hR hO => ?_⟩
      have e1 := opS rfl (hO x (by simp [IOp.uses])) h0
      rw [hx] at e1
      simp only [Den] at e1
      obtain ⟨vs, hD, e1⟩ := e1
      exact ⟨_, by rw [exec_callv hc e1, run_callFunc_ok hcl], (argsV_den rfl h1 (hO' hO)).append hD⟩
    · exact h.elim
  | mkmap t e str hk =>
    obtain ⟨k, kd, h1, h2, h3⟩ := keyKind_spec hk
    refine ⟨_, _, _, h, ERes.val fun av ν a w hR hF hO => ?_⟩
    have hadd := hR.add (w' := w.alloc (.map #[] 0)) (x := .map (some w.heap.size)) (r := .map str []) (below_alloc w _) (fun b hb => by
      simp only [fp, blockOf, Option.some.injEq] at hb
      subst hb
      exact ⟨Nat.le_refl _, by simp⟩) (fun _ _ => ⟨w.heap.size, #[], 0, rfl, by simpa using heap_alloc_new w (.map #[] 0), rfl, by simp⟩)
    refine ⟨w.alloc (.map #[] 0), .map (some w.heap.size), _, ?_, hadd, ?_⟩
    · simp only [execOp, Instr.makeMap]; rfl
    · simp only [Den]
      exact ⟨by rw [← hR.len]; simp, _, rfl⟩
  | mupd t e str m k v hk =>
    obtain ⟨h1, h2, h3, h⟩ := h
    split at h
    · rename_i j key u hm hkey hv
      split at h
      · rename_i s es hj
        obtain ⟨hs, hko, h⟩ := h
        subst hs
        refine ⟨_, _, _, h, ERes.skip fun av ν a w hR hF hO => ?_⟩
        have e1 := opS rfl (hO m (by simp [IOp.uses])) h1
        have e2 := opS rfl (hO k (by simp [IOp.uses])) h2
        have e3 := opS rfl (hO v (by simp [IOp.uses])) h3
        rw [hm] at e1
        rw [hkey] at e2
        rw [hv] at e3
        have e2 := den_v e2
        have e3 := den_v e3
        simp only [Den] at e1
        obtain ⟨b, ents, clock, ex, hb, hes, hks⟩ := hR.get hj e1.1
        subst hes
        have hks' : ∀ x ∈ ents.toList, keyOK s x.key = true := fun x hx => hks _ (List.mem_map.2 ⟨x, hx, rfl⟩)
        obtain ⟨ents', clock', hrun, hm'⟩ := run_mapUpdate (P := E.P) (u := u) hk hb hks' hko
        have hblt : b < w.heap.size := (Array.getElem?_eq_some_iff.1 hb).1
        have hup := hR.upd (w' := { w with heap := w.heap.setIfInBounds b (.map ents' clock') }) (r' := .map s (mput key u (ents.toList.map fun e => (e.key, e.val)))) hj e1.1
          ⟨rfl, rfl, rfl, by simp, fun b' _ hn => by
            have : b ≠ b' := fun e => hn (by subst e; rw [ex]; rfl)
            simp [Array.getElem?_setIfInBounds_ne this]⟩ (fun _ hb => hb) (fun _ => ⟨b, ents', clock', ex, by simp [hblt], hm', mput_keys hko hks⟩)
        exact ⟨_, _, (by simp only [execOp, ex, e2, e3, Sem.run_bind, hrun]; rfl), hup, by simp [Den]⟩
      · exact h.elim
    · exact h.elim
  | app c t e i s x hc hat ha ht hi z hz hzs =>
    obtain ⟨h1, h2, h3, h⟩ := h
    obtain ⟨cal, ⟨args⟩, ⟨ats⟩⟩ := c
    simp only at hc hat ha
    subst hc hat ha
    have exec : ∀ (a : Act) (w : World) (y : Value) (w' : World), (Builtin.append_ #[t, t] ty #[a.eval s, a.eval x]).run E.P w = .ok y w' → (execOp a.eval { dst, op := .call ⟨.builtin .append, ⟨[s, x]⟩, ⟨[t, t]⟩⟩, type := ty, pos, after, guard }).run E.P w = .ok (.value y) w' := fun a w y w' hy => by
      simp [execOp, resolve, invoke, builtin, hy]
    have from_nil : ∀ (K2 : List (List C) → Prop), (∀ ν w O y, Den ν w O (strip (ov s)) y → ∃ A, y = .slice A 0 0) → srcOf rs i.size (strip (ov x)) none K2 → (∀ ys, K2 ys → (ys.length ≤ 140737488355328 ∧ ys.length * i.bytes ≤ 140737488355328) ∧ K (.rv rs.length) (rs ++ [.row e i.size ys]) []) →
        ∃ s' rs' pk, K s' rs' pk ∧ ERes E ov rs (.app e i.size i.bytes s x) { dst, op := .call ⟨.builtin .append, ⟨[s, x]⟩, ⟨[t, t]⟩⟩, type := ty, pos, after, guard } s' rs' pk := by
      intro K2 hs0 hsrc hK2
      obtain ⟨ys, hys, hall⟩ := srcOf_sound hsrc
      obtain ⟨⟨hb1, hb2⟩, hk⟩ := hK2 ys hys
      refine ⟨_, _, _, hk, ERes.val fun av ν a w hR hF hO => ?_⟩
      have e1 := opS rfl (hO s (by simp [IOp.uses])) h1
      have e2 := opS rfl (hO x (by simp [IOp.uses])) h2
      obtain ⟨A, hs0⟩ := hs0 _ _ _ _ e1
      obtain ⟨g0, us, g1, g2, g3⟩ := hall _ _ _ _ _ hR _ e2
      obtain ⟨x', w', hrun, hrow, htu, hbl⟩ := run_append_any (P := E.P) w t ty e i z ht hi hz hzs h3 (.slice A 0 0) 0 [] ⟨by simp, .inl ⟨rfl, A, rfl⟩⟩ _ _ _ g3 g2 (by omega) (by simpa using hb2)
      simp only [Nat.zero_add, List.nil_append] at hrow
      have hn0 : ∀ b, blockOf (.slice A 0 0) ≠ some b := fun b => by cases A <;> simp [blockOf]
      have hadd := hR.add (x := x') (r := .row e i.size ys) (below_of_turned htu fun b _ hb => hn0 b hb) (fun b hb => by
        rcases hbl b hb with h' | h'
        · exact absurd h' (hn0 b)
        · exact h') (fun hkp _ => ⟨g0, us, FzL.keep hkp g1, g2, hrow⟩)
      refine ⟨w', x', _, (exec a w _ _ (by rw [hs0]; exact hrun)), hadd, ?_⟩
      simp only [Den]
      exact ⟨by rw [← hR.len]; simp, hrow.slice.elim fun A h => h.elim fun c h => ⟨A, _, c, h⟩⟩
    split at h
    · rename_i k hs
      split at h
      · rename_i te zz es hk
        obtain ⟨rfl, rfl, h⟩ := h
        obtain ⟨ys, ⟨⟨hb1, hb2⟩, hk'⟩, hall⟩ := srcOf_sound h
        refine ⟨_, _, _, hk', ERes.val fun av ν a w hR hF hO => ?_⟩
        have e1 := opS rfl (hO s (by simp [IOp.uses])) h1
        have e2 := opS rfl (hO x (by simp [IOp.uses])) h2
        rw [hs] at e1
        simp only [Den] at e1
        obtain ⟨g0, us, g1, g2, g3⟩ := hall _ _ _ _ _ hR _ e2
        obtain ⟨l0, vs, l1, l2, l3⟩ := hR.get hk e1.1
        obtain ⟨x', w', hrun, hrow, htu, hbl⟩ := run_append_any (P := E.P) w t ty te i z ht hi hz hzs h3 _ _ _ l3 _ _ _ g3 g2 hb1 hb2
        have hrep := hR.repl (pk := [k]) (x' := x') (r' := .row te i.size (es ++ ys)) hk e1.1 htu (fun l y hl hy => by
          have : l ≠ k := fun e => hl (by simp [e])
          rw [List.getElem?_set_ne (Ne.symm this)]; exact hy) (fun b hb => hbl b hb) (fun hkp => by
            refine ⟨fun q hq => ?_, vs ++ us, ?_, ?_, ?_⟩
            · rcases List.mem_append.1 hq with h' | h'
              · exact l0 q h'
              · exact g0 q h'
            · rw [List.flatten_append]; exact FzL.keep hkp (l1.append g1)
            · intro u hu
              rcases List.mem_append.1 hu with h' | h'
              · exact l2 u h'
              · exact g2 u h'
            · rw [List.length_append]; exact hrow)
        refine ⟨w', x', _, (exec a w _ _ hrun), hrep, ?_⟩
        simp only [Den]
        have hkl : k < ν.length := (List.getElem?_eq_some_iff.1 e1.1).1
        exact ⟨by rw [List.getElem?_set]; simp [hkl], hrow.slice.elim fun A h => h.elim fun c h => ⟨A, _, c, h⟩⟩
      · exact h.elim
    · rename_i hs
      exact from_nil _ (fun ν w O y hy => by rw [hs] at hy; simpa only [Den] using hy) h fun ys hys => hys
    · rename_i hs
      exact from_nil _ (fun ν w O y hy => by rw [hs] at hy; exact ⟨none, den_v hy⟩) h fun ys hys => hys
    · exact h.elim
  | apps c t t' e i s x hc hat ha ht ht' hi hz hs1 hb1 =>
    obtain ⟨h1, h2, h⟩ := h
    obtain ⟨cal, ⟨args⟩, ⟨ats⟩⟩ := c
    simp only at hc hat ha
    subst hc hat ha
    have exec : ∀ (a : Act) (w : World) (y : Value) (w' : World), (Builtin.append_ #[t, t'] ty #[a.eval s, a.eval x]).run E.P w = .ok y w' → (execOp a.eval { dst, op := .call ⟨.builtin .append, ⟨[s, x]⟩, ⟨[t, t']⟩⟩, type := ty, pos, after, guard }).run E.P w = .ok (.value y) w' := fun a w y w' hy => by
      simp [execOp, resolve, invoke, builtin, hy]
    have hby1 : ∀ (b : ByteArray), ∀ q ∈ b.data.toList.map byteC, q.length = 1 := fun b q hq => by obtain ⟨y, _, rfl⟩ := List.mem_map.1 hq; rfl
    split at h
    · rename_i b hx
      split at h
      · rename_i k hs
        split at h
        · rename_i te zz es hk
          obtain ⟨rfl, rfl, hbd, h⟩ := h
          refine ⟨_, _, _, h, ERes.val fun av ν a w hR hF hO => ?_⟩
          have e1 := opS rfl (hO s (by simp [IOp.uses])) h1
          have e2 := opS rfl (hO x (by simp [IOp.uses])) h2
          rw [hx] at e2
          have e2 := den_v e2
          rw [hs] at e1
          simp only [Den] at e1
          obtain ⟨l0, vs, l1, l2, l3⟩ := hR.get hk e1.1
          obtain ⟨x', w', hrun, hrow, htu, hbl⟩ := run_append_str_any (P := E.P) w t t' ty te i ht ht' hi hz hs1 hb1 _ _ _ l3 b hbd
          have hrep := hR.repl (pk := [k]) (x' := x') (r' := .row te 1 (es ++ b.data.toList.map byteC)) hk e1.1 htu (fun l y hl hy => by
            have : l ≠ k := fun e => hl (by simp [e])
            rw [List.getElem?_set_ne (Ne.symm this)]; exact hy) (fun b hb => hbl b hb) (fun hkp => by
              refine ⟨fun q hq => ?_, vs ++ Lib.strCells b, ?_, ?_, ?_⟩
              · rcases List.mem_append.1 hq with h' | h'
                · exact l0 q h'
                · exact hby1 b q h'
              · rw [List.flatten_append]; exact FzL.keep hkp (l1.append (strCells_fz b))
              · intro u hu
                rcases List.mem_append.1 hu with h' | h'
                · exact l2 u h'
                · exact Lib.strCells_oneCell b u h'
              · rw [List.length_append, List.length_map]; exact hrow)
          refine ⟨w', x', _, (exec a w _ _ (by rw [e2]; exact hrun)), hrep, ?_⟩
          simp only [Den]
          have hkl : k < ν.length := (List.getElem?_eq_some_iff.1 e1.1).1
          exact ⟨by rw [List.getElem?_set]; simp [hkl], hrow.slice.elim fun A h => h.elim fun c h => ⟨A, _, c, h⟩⟩
        · exact h.elim
      · rename_i hs
        obtain ⟨hbd, h⟩ := h
        refine ⟨_, _, _, h, ERes.val fun av ν a w hR hF hO => ?_⟩
        have e1 := opS rfl (hO s (by simp [IOp.uses])) h1
        have e2 := opS rfl (hO x (by simp [IOp.uses])) h2
        rw [hx] at e2
        have e2 := den_v e2
        rw [hs] at e1
        have e1 := den_v e1
        obtain ⟨x', w', hrun, hrow, htu, hbl⟩ := run_append_str_any (P := E.P) w t t' ty e i ht ht' hi hz hs1 hb1 (.slice none 0 0) 0 [] ⟨by simp, .inl ⟨rfl, none, rfl⟩⟩ b (by omega)
        simp only [Nat.zero_add, List.nil_append] at hrow
        have hadd := hR.add (x := x') (r := .row e 1 (b.data.toList.map byteC)) (below_of_turned htu fun b _ hb => by cases hb) (fun b hb => by
          rcases hbl b hb with h' | h'
          · cases h'
          · exact h') (fun hkp _ => ⟨hby1 b, _, FzL.keep hkp (strCells_fz b), Lib.strCells_oneCell b, by rw [List.length_map]; exact hrow⟩)
        refine ⟨w', x', _, (exec a w _ _ (by rw [e1, e2]; exact hrun)), hadd, ?_⟩
        simp only [Den]
        exact ⟨by rw [← hR.len]; simp, hrow.slice.elim fun A h => h.elim fun c h => ⟨A, _, c, h⟩⟩
      · exact h.elim
    · exact h.elim
  | bsl0 t e ps i ht hi hps =>
    have hps0 : ps = #[] := Array.eq_empty_of_size_eq_zero hps
    subst hps0
    refine ⟨_, _, _, h, ERes.val fun av ν a w hR hF hO => ?_⟩
    refine ⟨w.alloc (.cells #[] e), .slice (some ⟨w.heap.size, 0, none⟩) 0 0, ν, ?_, ⟨hR.below (below_alloc w _), Mv.of_below (below_alloc w _)⟩, ⟨_, rfl⟩⟩
    simp [execOp, Instr.buildSlice, run_underlying ht w, sizeOf, typeInfo, hi, Instr.fill, newRow, show (Array.range 0 : Array Nat) = #[] from rfl]
  | bsl t e n ps i z ht hi hz hn hzs =>
    obtain ⟨h1, h1l, h1p, h2, h3, ⟨h5, h6⟩, h⟩ := h
    have hzsz : 0 < z.cells.size := by rw [hzs]; exact h1p
    obtain ⟨hl2, hg2⟩ := partsE_get h2
    have hrl : ∀ q ∈ List.replicate n (z.cells.toList.map C.v), q.length = i.size := fun q hq => by rw [List.eq_of_mem_replicate hq]; simpa using hzs
    obtain ⟨p1, p2, p3, p4⟩ := splice_set (partsE ov ps.toList) (List.replicate n (z.cells.toList.map C.v)) n (by simp) hrl h3
    refine ⟨_, _, _, h, ERes.val fun av ν a w hR hF hO => ?_⟩
    have hz0 : FzL w (OO av rs ν) (List.replicate n (z.cells.toList.map C.v)).flatten (List.replicate n z.cells.toList).flatten := by
      have : ∀ n, FzL w (OO av rs ν) (List.replicate n (z.cells.toList.map C.v)).flatten (List.replicate n z.cells.toList).flatten := fun n => by
        induction n with
        | zero => simp [FzL]
        | succ n ih => rw [List.replicate_succ, List.replicate_succ, List.flatten_cons, List.flatten_cons]; exact (FzL.vs _).append ih
      exact this n
    obtain ⟨us, hf, hD⟩ := fill_splice (ν := ν) (w := w) (O := OO av rs ν) (fun j => some (j * i.size, i.size)) (ps.toList.map fun (j, x) => (j, a.eval x)) ((partsE ov ps.toList).map fun (j, c) => (j * i.size, i.size, c)) _ _
      (by simp [hl2]) (fun j f v hj => by
        simp only [List.getElem?_map, Option.map_eq_some_iff] at hj
        obtain ⟨⟨f', x⟩, hj, he⟩ := hj
        simp only [Prod.mk.injEq] at he
        obtain ⟨rfl, rfl⟩ := he
        obtain ⟨hrq, hpv⟩ := hg2 j _ x hj
        have hmem : x ∈ (IOp.bsl e i.size n z.cells.toList ps.toList).uses := List.mem_map.2 ⟨_, List.mem_of_getElem? hj, rfl⟩
        exact ⟨_, _, _, by rw [List.getElem?_map, hpv]; rfl, rfl, cellsS_den (opS rfl (hO x hmem) hrq) (bslOK_get h3 j _ _ hpv)⟩) (hz0.den ν) p2
    rw [p1] at hD
    have hcl : C.clL (setParts (List.replicate n (z.cells.toList.map C.v)) (partsE ov ps.toList)).flatten = true := flat_cl (setParts_cl h3 fun e he => by rw [List.eq_of_mem_replicate he]; exact vs_cl _)
    have hon : C.ones (setParts (List.replicate n (z.cells.toList.map C.v)) (partsE ov ps.toList)).flatten = true := flat_ones (setParts_ones h3 fun e he => by rw [List.eq_of_mem_replicate he]; exact vs_ones h1)
    have hul : us.length = n * i.size := by rw [hD.length, flat_len p4, p3]
    have hnpos : 0 < n := by
      rcases Nat.eq_zero_or_pos n with h0 | h0
      · subst h0; simp at hn
      · exact h0
    have hrow : rowAt (w.alloc (.cells us.toArray e)) e i.size (.slice (some ⟨w.heap.size, 0, none⟩) n n) n us :=
      ⟨hul, .inr ⟨w.heap.size, n, us.toArray, rfl, hnpos, heap_alloc_new w _, Nat.le_refl _, by simp only [maxLen]; omega, by simp [hul], by show us.take (n * i.size) = us; rw [← hul]; exact List.take_length⟩⟩
    have hadd := hR.add (w' := w.alloc (.cells us.toArray e)) (x := .slice (some ⟨w.heap.size, 0, none⟩) n n) (r := .row e i.size (setParts (List.replicate n (z.cells.toList.map C.v)) (partsE ov ps.toList))) (below_alloc w _) (fun b hb => by
      simp only [fp, blockOf] at hb
      rw [if_neg (by omega)] at hb
      injection hb with hb
      subst hb
      exact ⟨Nat.le_refl _, by simp⟩) (fun hkp _ => ⟨p4, us, FzL.keep hkp (hD.fz hcl), ones_den hD hon, by rw [p3]; exact hrow⟩)
    refine ⟨w.alloc (.cells us.toArray e), .slice (some ⟨w.heap.size, 0, none⟩) n n, _, ?_, hadd, ?_⟩
    · have hzr : (zeroValue e).run E.P w = .ok z w := by simp [zeroValue, typeInfo, hi, hz]
      have hn' : ¬ n * i.size > 2 ^ 24 := by omega
      have hzf := zeros_flat z.cells n hzsz
      rw [hzs] at hzf
      have hze : ((Array.range (n * i.size)).map fun j => z.cells[j % z.cells.size]!) = (List.replicate n z.cells.toList).flatten.toArray := by
        apply Array.ext'
        rw [hzs, hzf]
      have e1 : (ps.map fun (i, x) => (i, a.eval x)).toList = ps.toList.map fun (i, x) => (i, a.eval x) := by simp
      simp only [execOp, Instr.buildSlice, Sem.run_bind, run_underlying ht w, Result.andThen_ok, sizeOf, typeInfo, run_program, hi, Sem.run_pure, hn', if_false, hn, hzr, hze, e1, hf]
      simp [newRow]
    · simp only [Den]
      exact ⟨by rw [← hR.len]; simp, _, _, _, rfl⟩
  | appz c t t' kn e i s x hc hat ha ht ht' hi z hz hzs h0 =>
    obtain ⟨h1, h2, h3, h4, h⟩ := h
    obtain ⟨cal, ⟨args⟩, ⟨ats⟩⟩ := c
    simp only at hc hat ha
    subst hc hat ha
    split at h
    · rename_i n hs hx
      obtain ⟨⟨b0, b1, b2⟩, h⟩ := h
      have hzl : z.cells.toList.length = i.size := by simpa using hzs
      have hzsz : 0 < z.cells.size := by simpa using h2
      have h : K (.rv rs.length) (rs ++ [.row e i.size (List.replicate n.toNat (z.cells.toList.map .v))]) [] := by rw [← hzl]; exact h
      refine ⟨_, _, _, h, ERes.val fun av ν a w hR hF hO => ?_⟩
      have e1 := opS rfl (hO s (by simp [IOp.uses])) h3
      have e2 := opS rfl (hO x (by simp [IOp.uses])) h4
      rw [hs] at e1
      rw [hx] at e2
      have e1 := den_v e1
      have e2 := den_v e2
      have hfl : ∀ n, FzL w (OO av rs ν) (List.replicate n (z.cells.toList.map C.v)).flatten (List.replicate n z.cells.toList).flatten := fun n => by
        induction n with
        | zero => simp [FzL]
        | succ n ih => rw [List.replicate_succ, List.replicate_succ, List.flatten_cons, List.flatten_cons]; exact (FzL.vs _).append ih
      have hlen : ∀ n, (List.replicate n z.cells.toList).flatten.length = n * i.size := fun n => by
        rw [flat_len (sz := i.size) (fun q hq => by rw [List.eq_of_mem_replicate hq]; exact hzl), List.length_replicate]
      obtain ⟨m, rfl⟩ : ∃ m : Nat, n = m := ⟨n.toNat, by omega⟩
      simp only [Int.toNat_natCast] at *
      have hone : ∀ u ∈ (List.replicate m z.cells.toList).flatten, u.oneCell' = true := fun u hu => by
        obtain ⟨q, hq, hu⟩ := List.mem_flatten.1 hu
        rw [List.eq_of_mem_replicate hq] at hu
        exact oneAll_spec h1 u hu
      have hrun := Lib.run_append_nil_zeros w t t' ty e i z .i64 kn ht ht' hi hz m (by omega) h0 (by omega) (by omega)
      have hge := grownCap_ge w m 0 e
      have hcm : grownCap w m 0 e ≤ maxLen := grownCap_le_maxLen w m 0 e (by simp only [maxLen]; omega)
      have hrow : rowAt (w.drew.alloc (.cells (Builtin.zeroCells z.cells m ++ Builtin.zeroCells z.cells (grownCap w m 0 e - m)) e)) e i.size (.slice (some ⟨w.heap.size, 0, none⟩) m (grownCap w m 0 e)) m (List.replicate m z.cells.toList).flatten := by
        refine ⟨hlen _, .inr ⟨w.heap.size, _, _, rfl, by omega, heap_alloc_new w.drew _, hge, hcm, ?_, ?_⟩⟩
        · simp only [Array.size_append, size_zeroCells, hzs, ← Nat.add_mul]
          congr 1
          omega
        · rw [Array.toList_append, show (Builtin.zeroCells z.cells m).toList = (List.replicate m z.cells.toList).flatten from zeros_flat z.cells m hzsz, ← hlen m]
          exact List.take_left
      have hadd := hR.add (w' := w.drew.alloc (.cells (Builtin.zeroCells z.cells m ++ Builtin.zeroCells z.cells (grownCap w m 0 e - m)) e)) (x := .slice (some ⟨w.heap.size, 0, none⟩) m (grownCap w m 0 e)) (r := .row e i.size (List.replicate m (z.cells.toList.map .v)))
        (below_of_turned (F := fun _ => False) ⟨rfl, rfl, rfl, by simp, fun b hb _ => heap_alloc_old w.drew _ hb⟩ fun _ _ => id) (fun b hb => by
        simp only [fp, blockOf] at hb
        split at hb
        · cases hb
        · injection hb with hb
          subst hb
          exact ⟨Nat.le_refl _, by simp⟩) (fun hkp _ => ⟨fun q hq => by rw [List.eq_of_mem_replicate hq]; simpa using hzs, _, FzL.keep hkp (hfl _), hone, by rw [List.length_replicate]; exact hrow⟩)
      refine ⟨_, .slice (some ⟨w.heap.size, 0, none⟩) m (grownCap w m 0 e), _, ?_, hadd, ?_⟩
      · simp [execOp, resolve, invoke, builtin, e1, e2, hrun]
      · simp only [Den]
        exact ⟨by rw [← hR.len]; simp, _, _, _, rfl⟩
    · exact h.elim
  | mksl t e l c i z ht hi hz hzs h0 =>
    obtain ⟨h1, h2, h3, h4, h⟩ := h
    have hzsz : 0 < z.cells.size := by simpa using h2
    split at h
    · rename_i lv cv hl hc
      obtain ⟨⟨b0, b1, b2, b3⟩, h⟩ := h
      have hzl : z.cells.toList.length = i.size := by simpa using hzs
      have h : K (.rv rs.length) (rs ++ [.row e i.size (List.replicate lv.toNat (z.cells.toList.map .v))]) [] := by rw [← hzl]; exact h
      refine ⟨_, _, _, h, ERes.val fun av ν a w hR hF hO => ?_⟩
      have e1 := opS rfl (hO l (by simp [IOp.uses])) h3
      have e2 := opS rfl (hO c (by simp [IOp.uses])) h4
      rw [hl] at e1
      rw [hc] at e2
      have e1 := den_v e1
      have e2 := den_v e2
      have hfl : ∀ n, FzL w (OO av rs ν) (List.replicate n (z.cells.toList.map C.v)).flatten (List.replicate n z.cells.toList).flatten := fun n => by
        induction n with
        | zero => simp [FzL]
        | succ n ih => rw [List.replicate_succ, List.replicate_succ, List.flatten_cons, List.flatten_cons]; exact (FzL.vs _).append ih
      have hlen : ∀ n, (List.replicate n z.cells.toList).flatten.length = n * i.size := fun n => by
        rw [flat_len (sz := i.size) (fun q hq => by rw [List.eq_of_mem_replicate hq]; exact hzl), List.length_replicate]
      have htk : ((List.replicate cv.toNat z.cells.toList).flatten.take (lv.toNat * i.size)) = (List.replicate lv.toNat z.cells.toList).flatten := by
        have : List.replicate cv.toNat z.cells.toList = List.replicate lv.toNat z.cells.toList ++ List.replicate (cv.toNat - lv.toNat) z.cells.toList := by
          rw [List.replicate_append_replicate]; congr 1; omega
        rw [this, List.flatten_append, ← hlen lv.toNat]
        exact List.take_left
      have hone : ∀ u ∈ (List.replicate lv.toNat z.cells.toList).flatten, u.oneCell' = true := fun u hu => by
        obtain ⟨q, hq, hu⟩ := List.mem_flatten.1 hu
        rw [List.eq_of_mem_replicate hq] at hu
        exact oneAll_spec h1 u hu
      have hrow : rowAt (w.alloc (.cells (List.replicate cv.toNat z.cells.toList).flatten.toArray e)) e i.size (.slice (some ⟨w.heap.size, 0, none⟩) lv.toNat cv.toNat) lv.toNat (List.replicate lv.toNat z.cells.toList).flatten := by
        refine ⟨hlen _, ?_⟩
        rcases Nat.eq_zero_or_pos cv.toNat with hc0 | hc0
        · exact .inl ⟨by omega, _, by rw [hc0]; congr 1; omega⟩
        · exact .inr ⟨w.heap.size, _, _, rfl, hc0, heap_alloc_new w _, by omega, by simp only [maxLen]; omega, by rw [List.size_toArray, hlen], htk⟩
      have hadd := hR.add (w' := w.alloc (.cells (List.replicate cv.toNat z.cells.toList).flatten.toArray e)) (x := .slice (some ⟨w.heap.size, 0, none⟩) lv.toNat cv.toNat) (r := .row e i.size (List.replicate lv.toNat (z.cells.toList.map .v))) (below_alloc w _) (fun b hb => by
        simp only [fp, blockOf] at hb
        split at hb
        · cases hb
        · injection hb with hb
          subst hb
          exact ⟨Nat.le_refl _, by simp⟩) (fun hkp _ => ⟨fun q hq => by rw [List.eq_of_mem_replicate hq]; simpa using hzs, _, FzL.keep hkp (hfl _), hone, by rw [List.length_replicate]; exact hrow⟩)
      refine ⟨w.alloc (.cells (List.replicate cv.toNat z.cells.toList).flatten.toArray e), .slice (some ⟨w.heap.size, 0, none⟩) lv.toNat cv.toNat, _, ?_, hadd, ?_⟩
      · have hzr : (zeroValue e).run E.P w = .ok z w := by simp [zeroValue, typeInfo, hi, hz]
        have hzf := zeros_flat z.cells cv.toNat hzsz
        rw [hzs] at hzf
        have hze : ((Array.range (cv.toNat * i.size)).map fun j => z.cells[j % z.cells.size]!) = (List.replicate cv.toNat z.cells.toList).flatten.toArray := by
          apply Array.ext'
          rw [hzs, hzf]
        have hb' : (i.bytes : Int) * cv ≤ 281474976710656 := by
          have h3 : (((i.bytes * cv.toNat : Nat) : Int)) ≤ 140737488355328 := by rw [Nat.mul_comm]; omega
          rw [Int.natCast_mul, show ((cv.toNat : Nat) : Int) = cv by omega] at h3
          omega
        have hrun := run_make (P := E.P) w t e i z ht hi hz .i64 .i64 lv cv b0 b1 hb' (by omega)
        unfold madeCells at hrun
        rw [hze] at hrun
        simp only [execOp, e1, e2, Sem.run_bind, hrun]
        rfl
      · simp only [Den]
        exact ⟨by rw [← hR.len]; simp, _, _, _, rfl⟩
    · exact h.elim
  | _ => exact (h : False).elim
end
end Go.Proofs.YtaicmkocmnikjaaDoor.Eng
