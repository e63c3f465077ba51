/- The walk of pure operations is sound: building, slicing, looking up; all of them. -/
import Derived.Test.YtaicmkocmnikjaaDoorSn1
namespace Go.Proofs.YtaicmkocmnikjaaDoor.Eng
set_option linter.all false
open Go Go.RowKit

section
variable {P : Program} {ν : List Value} {rs : List Res} {a : Act} {w : World} {av own0 : Nat → Prop} {n0 : Nat} {ov : Operand → C}

theorem fill_splice {ν : List Value} {w : World} {O : Nat → Prop} (place : Nat → Option (Nat × Nat)) : ∀ (parts : List (Nat × Value)) (ps : List (Nat × Nat × C)) (cs : List C) (vs : List Value),
    parts.length = ps.length → (∀ (j i : Nat) (v : Value), parts[j]? = some (i, v) → ∃ off sz s, ps[j]? = some (off, sz, s) ∧ place i = some (off, sz) ∧ DenL ν w O (cellsS s) v.cells.toList) → DenL ν w O cs vs → spliceOK cs ps →
    ∃ us : List Value, Instr.fill place vs.toArray parts = some us.toArray ∧ DenL ν w O (splice cs ps) us
  | [], ps, cs, vs, hl, _, hD, _ => by
    have : ps = [] := by cases ps <;> simp_all
    subst this
    exact ⟨vs, rfl, hD⟩
  | (i, v) :: parts, ps, cs, vs, hl, hp, hD, hok => by
    cases ps with
    | nil => simp at hl
    | cons q ps =>
      obtain ⟨off, sz, s⟩ := q
      obtain ⟨off', sz', s', hq, hpl, hds⟩ := hp 0 i v rfl
      simp at hq
      obtain ⟨rfl, rfl, rfl⟩ := hq
      simp only [spliceOK] at hok
      obtain ⟨_, h1, h2, h3⟩ := hok
      have hvl : v.cells.size = sz := by rw [← Array.length_toList, hds.length, h1]
      have hcl : vs.length = cs.length := hD.length
      have hset : (v.cells.zipIdx.foldl (fun cs (c, j) => cs.setIfInBounds (off + j) c) vs.toArray) = (vs.take off ++ v.cells.toList ++ vs.drop (off + sz)).toArray := by
        have key : ∀ (l : List Value) (k : Nat) (us : List Value), off + k + l.length ≤ us.length →
            (l.zipIdx k).foldl (fun (cs : Array Value) (x : Value × Nat) => cs.setIfInBounds (off + x.2) x.1) us.toArray = (us.take (off + k) ++ l ++ us.drop (off + k + l.length)).toArray := by
          intro l
          induction l with
          | nil => intro k us h; simp
          | cons c l ih =>
            intro k us h
            simp only [List.length_cons] at h
            simp only [List.zipIdx_cons, List.foldl_cons, List.setIfInBounds_toArray]
            rw [ih (k + 1) _ (by simp; omega)]
            congr 1
            apply List.ext_getElem?
            intro m
            simp only [List.append_assoc, List.getElem?_append, List.length_take, List.length_set, List.getElem?_take, List.getElem?_set, List.length_cons, List.getElem?_drop]
            have e1 : min (off + (k + 1)) us.length = off + k + 1 := by omega
            have e2 : min (off + k) us.length = off + k := by omega
            rw [e1, e2]
            by_cases c1 : m < off + k
            · have : m < off + k + 1 := by omega
              have c2 : ¬ off + k = m := by omega
              simp [c1, this, c2]
              omega
            · by_cases c2 : m = off + k
              · subst c2
                simp
                omega
              · have c3 : ¬ m < off + k + 1 := by omega
                rw [if_neg c3, if_neg c1]
                have c4 : m - (off + k) = (m - (off + k + 1)) + 1 := by omega
                rw [c4]
                by_cases c5 : m - (off + k + 1) < l.length
                · simp [c5]
                · have c6 : ¬ (m - (off + k + 1) + 1 < l.length + 1) := by omega
                  rw [if_neg c5, if_neg c6]
                  have c7 : ¬ off + k = off + (k + 1) + l.length + (m - (off + k + 1) - l.length) := by omega
                  rw [if_neg c7]
                  congr 1
                  omega
        have h0 := key v.cells.toList 0 vs (by rw [Array.length_toList, hvl, hcl]; simpa using h2)
        rw [Array.length_toList, hvl, Nat.add_zero] at h0
        rw [← h0, ← Array.foldl_toList, Array.toList_zipIdx]
      obtain ⟨us, hf, hD'⟩ := fill_splice place parts ps _ (vs.take off ++ v.cells.toList ++ vs.drop (off + sz)) (by simpa using hl) (fun j i' v' hj => hp (j + 1) i' v' (by simpa using hj))
        (((hD.take off).append hds).append (hD.drop (off + sz))) h3
      refine ⟨us, ?_, hD'⟩
      have hbad : (v.cells.size ≠ sz || off + v.cells.size > vs.toArray.size) = false := by
        have h4 : ¬ off + v.cells.size > vs.toArray.size := by
          rw [hvl, List.size_toArray, hcl]; omega
        simp [hvl] at h4 ⊢
        omega
      simp only [Instr.fill, hpl, hbad, Bool.false_eq_true, if_false, hset]
      exact hf

theorem part_agg {P : Program} (t : TypeId) (i : TypeInfo) (d : TypeDesc) (cs : Array Value) (off : Nat) (hi : P.info? t = some i) (hd : P.underlying t = some d) (ha : isAggD (some d) = true) (w : World) :
    (part t cs off).run P w = .ok (.agg (cs.extract off (off + i.size))) w := by
  have hagg : (isAgg t).run P w = .ok true w := by
    unfold isAgg
    rw [Sem.run_bind, run_underlying hd w]
    cases d <;> simp_all [isAggD]
  simp [part, hagg, sizeOf, typeInfo, hi]
theorem part_one {P : Program} (t : TypeId) (d : TypeDesc) (cs : Array Value) (off : Nat) (v : Value) (hd : P.underlying t = some d) (ha : isAggD (some d) = false) (hv : cs[off]? = some v) (w : World) :
    (part t cs off).run P w = .ok v w := by
  have hagg : (isAgg t).run P w = .ok false w := by
    unfold isAgg
    rw [Sem.run_bind, run_underlying hd w]
    cases d <;> simp_all [isAggD]
  simp [part, hagg, hv]

theorem partsOf_get {P : Program} {fields : Array Field} : ∀ {ps : List (Nat × Operand)} {r : List (Nat × Nat × Operand)}, partsOf P fields ps = some r →
    ps.length = r.length ∧ ∀ (j f : Nat) (x : Operand), ps[j]? = some (f, x) → ∃ (fl : Field) (i : TypeInfo), fields[f]? = some fl ∧ P.info? fl.type = some i ∧ r[j]? = some (fl.offset, i.size, x)
  | [], r, h => by simp [partsOf] at h; subst h; simp
  | (f, x) :: ps, r, h => by
    simp only [partsOf] at h
    split at h
    · rename_i fl hf
      split at h
      · rename_i i r' hi hr
        injection h with h
        subst h
        obtain ⟨h1, h2⟩ := partsOf_get hr
        refine ⟨by simp [h1], fun j f' x' hj => ?_⟩
        cases j with
        | zero => simp at hj; obtain ⟨rfl, rfl⟩ := hj; exact ⟨fl, i, hf, hi, rfl⟩
        | succ j => simp at hj; obtain ⟨fl', i', h3, h4, h5⟩ := h2 j f' x' hj; exact ⟨fl', i', h3, h4, by simpa using h5⟩
      · cases h
    · cases h

theorem partsV_get {p : Bool} : ∀ {r : List (Nat × Nat × Operand)}, reqs p ov r → (partsV ov r).length = r.length ∧
    ∀ (j off sz : Nat) (x : Operand), r[j]? = some (off, sz, x) → req p (ov x) ∧ (partsV ov r)[j]? = some (off, sz, strip (ov x))
  | [], _ => by simp [partsV]
  | (o, z, x) :: r, h => by
    simp only [reqs] at h
    obtain ⟨h1, h2⟩ := partsV_get (p := p) h.2
    refine ⟨by simp [partsV, h1], fun j off sz x' hj => ?_⟩
    cases j with
    | zero => simp at hj; obtain ⟨rfl, rfl, rfl⟩ := hj; exact ⟨h.1, rfl⟩
    | succ j => simp at hj; obtain ⟨h3, h4⟩ := h2 j off sz x' hj; exact ⟨h3, by simpa [partsV] using h4⟩

theorem spliceOK_cells {ps : List (Nat × Nat × C)} : ∀ {cs : List C}, spliceOK cs ps → ∀ (j off sz : Nat) (s : C), ps[j]? = some (off, sz, s) → cellsOK s = true := by
  induction ps with
  | nil => intro cs h j off sz s hj; simp at hj
  | cons q ps ih =>
    obtain ⟨o, z, x⟩ := q
    intro cs h j off sz s hj
    simp only [spliceOK] at h
    cases j with
    | zero => simp at hj; obtain ⟨rfl, rfl, rfl⟩ := hj; exact h.1
    | succ j => simp at hj; exact ih h.2.2.2 j off sz s hj

theorem run_sizes {P : Program} (w : World) : ∀ (fs : List Field), (∀ f ∈ fs, (P.info? f.type).isSome = true) →
    (fs.mapM fun f => do pure (f.offset, ← sizeOf f.type) : Sem (List (Nat × Nat))).run P w = .ok (fs.map fun f => (f.offset, P.cellsOf f.type)) w
  | [], _ => by simp
  | f :: fs, h => by
    have h1 := h f (by simp)
    obtain ⟨i, hi⟩ := Option.isSome_iff_exists.1 h1
    have h2 := run_sizes w fs (fun g hg => h g (by simp [hg]))
    simp only [List.mapM_cons, Sem.run_bind, sizeOf, typeInfo, run_program, Result.andThen_ok, hi, Sem.run_pure] at h2 ⊢
    rw [h2]
    simp [Program.cellsOf, hi]


theorem build_sound {O : Nat → Prop} {t : TypeId} {ps : Array (Nat × Operand)} {fields : Array Field} {i : TypeInfo} {z : Value} {r : List (Nat × Nat × Operand)} {p : Bool}
    (ht : P.underlying t = some (.struct fields)) (hi : P.info? t = some i) (hz : i.zero = some z) (hall : (fields.toList.all fun f => (P.info? f.type).isSome) = true) (hpo : partsOf P fields ps.toList = some r)
    (hq : reqs p ov r) (hs : spliceOK (z.cells.toList.map .v) (partsV ov r)) (hO : ∀ x ∈ r.map (·.2.2), Den ν w O (ov x) (a.eval x)) (hp : p = true) :
    ∃ y, Den ν w O (.agg (splice (z.cells.toList.map .v) (partsV ov r))) y ∧ (Instr.build t (ps.map fun (i, x) => (i, a.eval x))).run P w = .ok y w := by
  obtain ⟨hl, hg⟩ := partsOf_get hpo
  obtain ⟨hl2, hg2⟩ := partsV_get hq
  have hall' : ∀ f ∈ fields.toList, (P.info? f.type).isSome = true := List.all_eq_true.1 hall
  obtain ⟨us, hf, hD⟩ := fill_splice (ν := ν) (w := w) (O := O) (((fields.toList.map fun f => (f.offset, P.cellsOf f.type)).toArray)[·]?) (ps.toList.map fun (i, x) => (i, a.eval x)) (partsV ov r) (z.cells.toList.map .v) z.cells.toList
    (by simp [hl, hl2]) (fun j f v hj => by
      simp only [List.getElem?_map, Option.map_eq_some_iff] at hj
      obtain ⟨⟨f', x⟩, hj, he⟩ := hj
      simp only [Prod.mk.injEq] at he
      obtain ⟨rfl, rfl⟩ := he
      obtain ⟨fl, i', hfl, hi', hrj⟩ := hg j f' x hj
      obtain ⟨hrq, hpv⟩ := hg2 j _ _ x hrj
      have hmem : x ∈ r.map (·.2.2) := List.mem_map.2 ⟨_, List.mem_of_getElem? hrj, rfl⟩
      refine ⟨_, _, _, hpv, ?_, cellsS_den (opS hp (hO x hmem) hrq) (spliceOK_cells hs j _ _ _ hpv)⟩
      have hfl' : fields.toList[f']? = some fl := by simpa using hfl
      simp [hfl', Program.cellsOf, hi']) (DenL.vs _) hs
  refine ⟨.agg us.toArray, ⟨us, hD, rfl⟩, ?_⟩
  have hm := run_sizes (P := P) w fields.toList hall'
  have hm' : (fields.mapM fun f => do pure (f.offset, ← sizeOf f.type) : Sem (Array (Nat × Nat))).run P w = .ok (fields.toList.map fun f => (f.offset, P.cellsOf f.type)).toArray w := by
    rw [Array.mapM_eq_mapM_toList, Sem.run_map, hm]
    rfl
  have hzr : (zeroValue t).run P w = .ok z w := by simp [zeroValue, typeInfo, hi, hz]
  unfold Instr.build
  simp only [Sem.run_bind, hzr, Result.andThen_ok, run_underlying ht w, hm']
  have e1 : (ps.map fun (i, x) => (i, a.eval x)).toList = ps.toList.map fun (i, x) => (i, a.eval x) := by simp
  rw [e1]
  simp only [Array.toArray_toList] at hf
  rw [hf]
  rfl

theorem run_equal_bool {P : Program} (t : TypeId) (ht : P.underlying t = some .bool) (x y : Bool) (w' : World) : (Op.equal t (.bool x) (.bool y)).run P w' = .ok (x == y) w' := by
  have h : ∀ d : Nat, (Op.equalIn (d + 1) t (.bool x) (.bool y)).run P w' = .ok (x == y) w' := fun d => by
    unfold Op.equalIn
    rw [Sem.run_bind, run_underlying ht]
    rfl
  exact h 9999

theorem bytesE_ints {O : Nat → Prop} : ∀ {es : List (List C)} {l : List UInt8}, bytesE es = some l → (∀ e ∈ es, e.length = 1) ∧ ∀ vs, DenL ν w O es.flatten vs → ∃ ns : List Int, vs = ns.map (Value.int .u8) ∧ ns.map (fun n => UInt8.ofNat n.toNat) = l
  | [], l, h => by
    simp only [bytesE, Option.some.injEq] at h
    subst h
    exact ⟨by simp, fun vs hv => by simp only [List.flatten_nil, DenL] at hv; exact ⟨[], by simp [hv], rfl⟩⟩
  | e :: es, l, h => by
    unfold bytesE at h
    split at h
    · rename_i heq; cases heq
    · rename_i n r heq
      injection heq with e1 e2
      subst e1 e2
      split at h
      · rename_i l' hl'
        injection h with h
        subst h
        obtain ⟨h0, h1⟩ := bytesE_ints hl'
        refine ⟨by intro e he; cases List.mem_cons.1 he with | inl q => subst q; rfl | inr q => exact h0 e q, fun vs hv => ?_⟩
        simp only [List.flatten_cons, List.cons_append, List.nil_append, DenL, Den] at hv
        obtain ⟨y, ys, rfl, rfl, h2⟩ := hv
        obtain ⟨ns, h3, h4⟩ := h1 ys h2
        exact ⟨n :: ns, by rw [h3]; rfl, by simp [h4]⟩
      · cases h
    · cases h
theorem push_fold (ns : List Int) : ∀ (s : ByteArray), ns.foldl (fun (r : ByteArray) n => r.push (UInt8.ofNat n.toNat)) s = ⟨s.data ++ (ns.map (fun n => UInt8.ofNat n.toNat)).toArray⟩ := by
  induction ns with
  | nil => intro s; simp
  | cons n ns ih =>
    intro s
    rw [List.foldl_cons, ih]
    simp [ByteArray.push]
/-- the bytes of a slice, as a string -/
theorem run_toStr (s d e : TypeId) (hs : P.underlying s = some (.slice e)) (he : P.underlying e = some (.int .u8)) (hd : P.underlying d = some .string)
    (A : Option Addr) (m c : Nat) (ns : List Int) (hl : ns.length = m) (hc : 0 < m → ∃ ad, A = some ad ∧ ∀ j u, (ns.map (Value.int .u8))[j]? = some u → w.cell? (ad.add j) = some u) :
    (convert s d (.slice A m c)).run P w = .ok (.string ⟨(ns.map (fun n => UInt8.ofNat n.toNat)).toArray⟩) w := by
  rw [run_convert_bytes_string w s d e A m c hs he hd]
  cases A with
  | none =>
    have hm : m = 0 := by
      rcases Nat.eq_zero_or_pos m with h0 | h0
      · exact h0
      · obtain ⟨ad, h, _⟩ := hc h0; cases h
    have hns : ns = [] := List.eq_nil_of_length_eq_zero (by omega)
    subst hns
    rfl
  | some ad =>
    have hcells : ∀ j u, (ns.map (Value.int .u8))[j]? = some u → w.cell? (ad.add j) = some u := by
      intro j u hu
      rcases Nat.eq_zero_or_pos m with h0 | h0
      · have hns : ns = [] := List.eq_nil_of_length_eq_zero (by omega)
        subst hns
        simp at hu
      · obtain ⟨ad', h, hcc⟩ := hc h0
        injection h with h
        subst h
        exact hcc j u hu
    have h2 := run_loadCells_list (P := P) w ad (ns.map (Value.int .u8)) hcells
    simp only [List.length_map] at h2
    rw [hl] at h2
    rw [run_bytesToString w ad m c ns h2, push_fold]
    simp

theorem run_slice_str {P : Program} (w : World) (t : TypeId) (ht : P.underlying t = some .string) (s : ByteArray) (lo hi : Option Value) (l h : Int) (k1 k2 : IntKind)
    (hlo : (lo = none ∧ l = 0) ∨ lo = some (.int k1 l)) (hhi : (hi = none ∧ h = s.size) ∨ hi = some (.int k2 h)) (h0 : 0 ≤ l) (h1 : l ≤ h) (h2 : h ≤ s.size) :
    (Instr.sliceAt t (.string s) lo hi none).run P w = .ok (.string (s.extract l.toNat h.toNat)) w := by
  have e2 : ((h.toNat : Nat) : Int) = h := by omega
  have hb : (Instr.sliceBounds false s.size s.size lo hi none).run P w = .ok (l.toNat, h.toNat, s.size) w := by
    rcases hlo with ⟨rfl, rfl⟩ | rfl <;> rcases hhi with ⟨rfl, rfl⟩ | rfl
    · simp [Instr.sliceBounds]
    · have c1 : 0 ≤ h ∧ h ≤ (s.size : Int) := ⟨by omega, h2⟩
      simp [Instr.sliceBounds, Instr.sliceBound, asIntOf, c1]
    · have c1 : 0 ≤ l ∧ l ≤ (s.size : Int) := ⟨h0, by omega⟩
      simp [Instr.sliceBounds, Instr.sliceBound, asIntOf, c1]
    · have c1 : 0 ≤ h ∧ h ≤ (s.size : Int) := ⟨by omega, h2⟩
      have c2 : 0 ≤ l ∧ l ≤ h := ⟨h0, h1⟩
      have c3 : 0 ≤ h := by omega
      have c4 : max h 0 = h := by omega
      simp [Instr.sliceBounds, Instr.sliceBound, asIntOf, c1, c2, c3, h0, h1, e2, c4]
  unfold Instr.sliceAt
  simp only [Sem.run_bind, run_underlying ht, Result.andThen_ok]
  unfold Instr.slice
  simp only [Sem.run_bind, run_underlying ht, Result.andThen_ok, Option.isSome_none, Bool.false_eq_true, if_false, hb, Sem.run_pure]

theorem run_slice_sub {P : Program} (w : World) (t e : TypeId) (ie : TypeInfo) (ht : P.underlying t = some (.slice e)) (hi' : P.info? e = some ie) (A : Option Addr) (n c : Nat) (lo hi : Option Value) (l h : Int) (k1 k2 : IntKind)
    (hlo : (lo = none ∧ l = 0) ∨ lo = some (.int k1 l)) (hhi : (hi = none ∧ h = n) ∨ hi = some (.int k2 h)) (h0 : 0 ≤ l) (h1 : l ≤ h) (h2 : h ≤ n) (hn : n ≤ c) :
    (Instr.sliceAt t (.slice A n c) lo hi none).run P w = .ok (sliced A l.toNat h.toNat c ie.size) w := by
  have he : P.elem t = e := by simp [Program.elem, ht]
  have ht' : P.underlying t = some (.slice (P.elem t)) := by rw [he]; exact ht
  have e2 : ((h.toNat : Nat) : Int) = h := by omega
  have hb : (Instr.sliceBounds true n c lo hi none).run P w = .ok (l.toNat, h.toNat, c) w := by
    rcases hlo with ⟨rfl, rfl⟩ | rfl <;> rcases hhi with ⟨rfl, rfl⟩ | rfl
    · simp [Instr.sliceBounds]
    · have c1 : 0 ≤ h ∧ h ≤ (c : Int) := ⟨by omega, by omega⟩
      simp [Instr.sliceBounds, Instr.sliceBound, asIntOf, c1]
    · have c1 : 0 ≤ l ∧ l ≤ (n : Int) := ⟨h0, by omega⟩
      simp [Instr.sliceBounds, Instr.sliceBound, asIntOf, c1]
    · have c1 : 0 ≤ h ∧ h ≤ (c : Int) := ⟨by omega, by omega⟩
      have c2 : 0 ≤ l ∧ l ≤ h := ⟨h0, h1⟩
      have c3 : 0 ≤ h := by omega
      have c4 : max h 0 = h := by omega
      simp [Instr.sliceBounds, Instr.sliceBound, asIntOf, c1, c2, c3, h0, h1, e2, c4]
  rw [run_sliceAt_slice w t _ lo hi none ht', run_slice_any w t A n c ht' lo hi none, hb]
  simp [sizeOf, typeInfo, he, hi', Result.andThen]

theorem argsV_den {O : Nat → Prop} {p : Bool} (hp : p = true) : ∀ {xs : List Operand}, argsR p ov xs → (∀ x ∈ xs, Den ν w O (ov x) (a.eval x)) → DenL ν w O (argsV ov xs) (xs.map a.eval)
  | [], _, _ => by simp [argsV, DenL]
  | x :: xs, hr, hO => ⟨a.eval x, xs.map a.eval, rfl, opS hp (hO x (by simp)) hr.1, argsV_den hp hr.2 fun y hy => hO y (by simp [hy])⟩

theorem bytes_beq (a b : ByteArray) : (a == b) = decide (a = b) := by rw [beq_toListBytes]; exact beq_bytes a b

theorem keyOK_str {x : Value} (h : keyOK true x = true) : ∃ s, x = .string s := by
  unfold keyOK at h
  split at h
  · exact ⟨_, rfl⟩
  · cases h
  · cases h
theorem keyOK_int {x : Value} (h : keyOK false x = true) : ∃ n, x = .int .i64 n := by
  unfold keyOK at h
  split at h
  · cases h
  · exact ⟨_, rfl⟩
  · cases h

theorem findNow_spec {kd : TypeDesc} {str : Bool} (hk : (str = true ∧ kd = .string) ∨ (str = false ∧ ∃ k, kd = .int k)) {key : Value} (h0 : keyOK str key = true) : ∀ (es : List MapEntry) (i : Nat), (∀ e ∈ es, keyOK str e.key = true) →
    ∃ r, Instr.findNow kd key es i = some r ∧ r.map (·.2) = mfind key (es.map fun e => (e.key, e.val))
  | [], i, _ => ⟨none, rfl, rfl⟩
  | e :: es, i, h => by
    have h1 := h e (by simp)
    obtain ⟨r, h2, h3⟩ := findNow_spec hk h0 es (i + 1) (fun e' he => h e' (by simp [he]))
    have same : ∃ b, Instr.sameNow kd key e.key = some b ∧ b = keyEq key e.key := by
      rcases hk with ⟨rfl, rfl⟩ | ⟨rfl, k, rfl⟩
      · obtain ⟨a, rfl⟩ := keyOK_str h0
        obtain ⟨b, hb⟩ := keyOK_str h1
        rw [hb]
        exact ⟨_, rfl, bytes_beq a b⟩
      · obtain ⟨a, rfl⟩ := keyOK_int h0
        obtain ⟨b, hb⟩ := keyOK_int h1
        rw [hb]
        exact ⟨_, rfl, rfl⟩
    obtain ⟨b, hs, hb⟩ := same
    cases hkb : b with
    | true =>
      refine ⟨some (i, e.val), ?_, ?_⟩
      · simp [Instr.findNow, hs, hkb]
      · simp [mfind, ← hb, hkb]
    | false =>
      refine ⟨r, ?_, ?_⟩
      · simp [Instr.findNow, hs, hkb, h2]
      · simp [mfind, ← hb, hkb, h3]
theorem keyKind_spec {t e : TypeId} {str : Bool} (h : keyKind P t = some (str, e)) : ∃ k kd, P.underlying t = some (.map k e) ∧ P.underlying k = some kd ∧ ((str = true ∧ kd = .string) ∨ (str = false ∧ ∃ i, kd = .int i)) := by
  unfold keyKind at h
  split at h
  · rename_i k e' hu
    split at h
    · rename_i hk
      injection h with h; injection h with h1 h2; subst h1 h2
      exact ⟨k, _, hu, hk, .inl ⟨rfl, rfl⟩⟩
    · rename_i i hk
      injection h with h; injection h with h1 h2; subst h1 h2
      exact ⟨k, _, hu, hk, .inr ⟨rfl, i, rfl⟩⟩
    · cases h
  · cases h
theorem run_checkKey {k : TypeId} {kd : TypeDesc} {str : Bool} (hk : P.underlying k = some kd) (hkd : (str = true ∧ kd = .string) ∨ (str = false ∧ ∃ i, kd = .int i)) (em : Bool) (key : Value) : (Instr.checkKey em 10000 k key).run P w = .ok () w := by
  show (Instr.checkKey em (9999 + 1) k key).run P w = .ok () w
  unfold Instr.checkKey
  rw [Sem.run_bind, run_underlying hk]
  rcases hkd with ⟨_, rfl⟩ | ⟨_, i, rfl⟩ <;> rfl
theorem run_lookup {t e : TypeId} {str ok : Bool} {i : TypeInfo} {z : Value} (hk : keyKind P t = some (str, e)) (hi : P.info? e = some i) (hz : i.zero = some z) {b : Nat} {ents : Array MapEntry} {clock : Nat} {key : Value}
    (hb : w.heap[b]? = some (.map ents clock)) (hks : ∀ x ∈ ents.toList, keyOK str x.key = true) (h0 : keyOK str key = true) :
    (Instr.lookup t (.map (some b)) key ok).run P w = .ok (match mfind key (ents.toList.map fun e => (e.key, e.val)), ok with
      | some u, true => .tuple #[u, .bool true]
      | some u, false => u
      | none, true => .tuple #[z, .bool false]
      | none, false => z) w := by
  obtain ⟨k, kd, h1, h2, h3⟩ := keyKind_spec hk
  obtain ⟨r, h4, h5⟩ := findNow_spec h3 h0 ents.toList 0 hks
  have hg : (getObj b).run P w = .ok (.map ents clock) w := by simp [getObj, Sem.run, hb]
  have hf : (Instr.findKey k key ents.toList).run P w = .ok r w := by
    unfold Instr.findKey
    simp [Sem.run_bind, run_underlying h2, h4]
  have hc := run_checkKey (w := w) h2 h3 ents.isEmpty key
  rw [← h5]
  unfold Instr.lookup
  simp only [Sem.run_bind, run_underlying h1, Result.andThen_ok, hg, Sem.run_pure, hc, hf]
  cases r with
  | none => cases ok <;> simp [zeroValue, typeInfo, hi, hz]
  | some q => cases ok <;> simp

set_option maxHeartbeats 1000000 in
/-- the model's entry of math/bits.Sub64 -/
def sub64E : Array Value → Sem Value := fun args => do
  let (x, y, b) ← Extern.MathBitsCarry.three "Sub64" args
  pure (Extern.MathBitsCarry.pair ((x + Extern.MathBitsCarry.m64 - y - b) % Extern.MathBitsCarry.m64) (if x < y + b then 1 else 0))
theorem find_sub64 {fn : Func} (h : fn.name = "math/bits.Sub64") : Extern.find fn = some sub64E := by
  obtain ⟨name⟩ := fn
  simp only at h
  subst h
  kernel_rfl
theorem run_sub64 (x y b : Nat) (hb : b ≤ 1) (w : World) : (sub64E #[.int .u64 x, .int .u64 y, .int .u64 b]).run P w =
    .ok (.tuple #[.int .u64 (((x + 18446744073709551616 - y - b) % 18446744073709551616 : Nat) : Int), .int .u64 ((if x < y + b then 1 else 0 : Nat) : Int)]) w := by
  have : b = 0 ∨ b = 1 := by omega
  rcases this with rfl | rfl <;> rfl
theorem call_sub64 {f : Nat} (h : sub64At P f = true) (x y b : Nat) (hb : b ≤ 1) (w : World) : (callFunc f #[.int .u64 x, .int .u64 y, .int .u64 b]).run P w =
    .ok (.value (.tuple #[.int .u64 (((x + 18446744073709551616 - y - b) % 18446744073709551616 : Nat) : Int), .int .u64 ((if x < y + b then 1 else 0 : Nat) : Int)])) w := by
  unfold sub64At at h
  split at h
  · rename_i fn hf
    simp only [Bool.and_eq_true, decide_eq_true_eq] at h
    obtain ⟨⟨h1, h2⟩, h3⟩ := h
    rw [run_callFunc_extern hf (by rw [h1]; rfl) h2 (by simpa using h3) (find_sub64 h1), run_sub64 x y b hb]
    rfl
  · cases h

theorem pureP_sound {p : Bool} {o : IOp} {K : C → Prop} {oo : Oper} (his : Is P oo.type oo.op o) (h : pureP ov rs p o K) :
    ∃ s, K s ∧ ∀ ν a w O, HR ν w O rs → (∀ x ∈ o.uses, Den ν w O (ov x) (a.eval x)) → p = true → Yl P ν w O a oo s := by
  obtain ⟨dst, op, ty, pos, after, guard⟩ := oo
  simp only at his
  cases his with
  | mv x => exact ⟨_, h.2, fun ν a w O hR hO hp => ⟨_, opS hp (hO _ (by simp [IOp.uses])) h.1, rfl⟩⟩
  | asg x => exact ⟨_, h.2, fun ν a w O hR hO hp => ⟨_, opS hp (hO _ (by simp [IOp.uses])) h.1, rfl⟩⟩
  | pick c x y =>
    simp only [pureP] at h
    obtain ⟨h1, h⟩ := h
    split at h
    · rename_i bc hbc
      obtain ⟨s, hs, hd⟩ := pickP_sound h
      refine ⟨s, hs, fun ν a w O hR hO hp => ⟨_, (hd ν w _ _ _ hp (hO _ (by simp [IOp.uses])) (hO _ (by simp [IOp.uses]))), ?_⟩⟩
      have h2 := (opS hp (hO _ (by simp [IOp.uses])) h1)
      rw [hbc] at h2
      have h3 := den_v h2
      simp [execOp, h3, asBool]
    · exact h.elim
  | bin b t yt x y =>
    simp only [pureP] at h
    obtain ⟨h1, h2, h⟩ := h
    split at h
    · rename_i vx vy hx hy
      cases hpp : p with
      | false =>
        rw [hpp] at h
        have : ∃ r, K r := by
          unfold binP at h
          split at h <;> first | (exact h.elim) | (exact ⟨_, h⟩) | (exact ⟨_, h.2⟩) | (exact ⟨_, h.2.2⟩)
        obtain ⟨r, hr⟩ := this
        exact ⟨r, hr, fun ν a w O hR hO hp => by cases hp⟩
      | true =>
        obtain ⟨r, hr, hrun⟩ := binP_sound hpp t x y P h
        refine ⟨_, hr, fun ν a w O hR hO _ => ⟨r, rfl, ?_⟩⟩
        have e1 := (opS hpp (hO _ (by simp [IOp.uses])) h1)
        have e2 := (opS hpp (hO _ (by simp [IOp.uses])) h2)
        rw [hx] at e1
        rw [hy] at e2
        have e1 := den_v e1
        have e2 := den_v e2
        have := hrun w
        simp only [execOp, e1, e2, Sem.run_bind, Sem.run_pure] at this ⊢
        rw [this]
        rfl
    · exact h.elim
  | beqT t yt x y ht =>
    simp only [pureP] at h
    obtain ⟨h1, h2, h⟩ := h
    split at h
    · rename_i vx vy hx hy
      refine ⟨_, h, fun ν a w O hR hO hp => ⟨(.bool (vx == vy)), rfl, ?_⟩⟩
      have e1 := (opS hp (hO _ (by simp [IOp.uses])) h1)
      have e2 := (opS hp (hO _ (by simp [IOp.uses])) h2)
      rw [hx] at e1
      rw [hy] at e2
      have e1 := den_v e1
      have e2 := den_v e2
      simp [execOp, e1, e2, eqGuard, binOp, run_equal_bool t ht]
    · exact h.elim
  | beqF t yt x y ht =>
    simp only [pureP] at h
    obtain ⟨h1, h2, h⟩ := h
    split at h
    · rename_i vx vy hx hy
      refine ⟨_, h, fun ν a w O hR hO hp => ⟨(.bool (vx != vy)), rfl, ?_⟩⟩
      have e1 := (opS hp (hO _ (by simp [IOp.uses])) h1)
      have e2 := (opS hp (hO _ (by simp [IOp.uses])) h2)
      rw [hx] at e1
      rw [hy] at e2
      have e1 := den_v e1
      have e2 := den_v e2
      simp [execOp, e1, e2, eqGuard, binOp, run_equal_bool t ht]
      cases vx <;> cases vy <;> rfl
    · exact h.elim
  | un u t x =>
    simp only [pureP] at h
    obtain ⟨h1, h⟩ := h
    split at h
    · rename_i b hb
      refine ⟨_, h, fun ν a w O hR hO hp => ⟨_, rfl, ?_⟩⟩
      have e1 := (opS hp (hO _ (by simp [IOp.uses])) h1)
      rw [hb] at e1
      have e1 := den_v e1
      simp [execOp, e1, Op.unary]
    · rename_i k q hb
      refine ⟨_, h, fun ν a w O hR hO hp => ⟨_, rfl, ?_⟩⟩
      have e1 := (opS hp (hO _ (by simp [IOp.uses])) h1)
      rw [hb] at e1
      have e1 := den_v e1
      simp [execOp, e1, Op.unary, Op.intArith]
    · exact h.elim
  | conv s d k k' x hs hd =>
    simp only [pureP] at h
    obtain ⟨h1, h⟩ := h
    split at h
    · rename_i kk q hb
      refine ⟨_, h, fun ν a w O hR hO hp => ⟨_, rfl, ?_⟩⟩
      have e1 := (opS hp (hO _ (by simp [IOp.uses])) h1)
      rw [hb] at e1
      have e1 := den_v e1
      simp [execOp, e1, convert, run_underlying hs, run_underlying hd, Conv.intToInt]
    · exact h.elim
  | fld s f fl sz x d hf hd =>
    simp only [pureP] at h
    obtain ⟨h1, h⟩ := h
    split at h
    · rename_i cs hcs
      obtain ⟨fields, i, hu, hfl, hi, hsz⟩ : ∃ fields i, P.underlying s = some (.struct fields) ∧ fields[f]? = some fl ∧ P.info? fl.type = some i ∧ i.size = sz := by
        unfold fieldOf at hf
        (repeat' split at hf) <;> simp_all
      cases hA : isAggD (some d) with
      | true =>
        simp only [hA, cond_true] at h
        refine ⟨_, h, fun ν a w O hR hO hp => ?_⟩
        obtain ⟨vs, e1, hD⟩ := aggCells_den ((opS hp (hO _ (by simp [IOp.uses])) h1)) hcs
        refine ⟨.agg (((vs.toList.drop fl.offset).take sz)).toArray, ⟨_, (hD.drop _).take _, rfl⟩, ?_⟩
        simp only [execOp, e1, Instr.field, run_underlying hu, Sem.run_bind, Result.andThen_ok, hfl, asAgg, Sem.run_pure, part_agg fl.type i d vs fl.offset hi hd hA w, hsz]
        congr 3
        apply Array.ext'
        simp
      | false =>
        simp only [hA, cond_false] at h
        split at h
        · rename_i r hr
          refine ⟨_, h, fun ν a w O hR hO hp => ?_⟩
          obtain ⟨vs, e1, hD⟩ := aggCells_den ((opS hp (hO _ (by simp [IOp.uses])) h1)) hcs
          obtain ⟨y, hy, hyd⟩ := hD.get hr
          refine ⟨y, hyd, ?_⟩
          have hy' : vs[fl.offset]? = some y := by simpa using hy
          simp only [execOp, e1, Instr.field, run_underlying hu, Sem.run_bind, Result.andThen_ok, hfl, asAgg, Sem.run_pure, part_one fl.type d vs fl.offset y hd hA hy' w]
        · exact h.elim
    · exact h.elim
  | ext x i =>
    simp only [pureP] at h
    obtain ⟨h1, h⟩ := h
    split at h
    · rename_i cs hcs
      split at h
      · rename_i r hr
        refine ⟨_, h, fun ν a w O hR hO hp => ?_⟩
        have e1 := (opS hp (hO _ (by simp [IOp.uses])) h1)
        rw [hcs] at e1
        simp only [Den] at e1
        obtain ⟨vs, hD, e1⟩ := e1
        obtain ⟨y, hy, hyd⟩ := hD.get hr
        refine ⟨y, hyd, ?_⟩
        simp [execOp, e1, Instr.extract, hy]
      · exact h.elim
    · exact h.elim
  | idxs t x i ht =>
    simp only [pureP] at h
    obtain ⟨h1, h2, h⟩ := h
    split at h
    · rename_i s kk q hx hq
      obtain ⟨hb, h⟩ := h
      refine ⟨_, h, fun ν a w O hR hO hp => ?_⟩
      have e1 := (opS hp (hO _ (by simp [IOp.uses])) h1)
      have e2 := (opS hp (hO _ (by simp [IOp.uses])) h2)
      rw [hx] at e1
      rw [hq] at e2
      have e1 := den_v e1
      have e2 := den_v e2
      obtain ⟨hb0, hbn⟩ := hb hp
      have hlt : q.toNat < s.size := by omega
      refine ⟨_, rfl, ?_⟩
      have hg : s[q.toNat]? = some s[q.toNat] := by simp [hlt]
      have hd : s.data.toList.getD q.toNat 0 = s[q.toNat] := by
        have hl : q.toNat < s.data.toList.length := by simpa using hlt
        rw [List.getD_eq_getElem?_getD, List.getElem?_eq_getElem hl]
        rfl
      simp only [execOp, e1, e2, Instr.index, asIntOf, run_underlying ht, Sem.run_bind, Result.andThen_ok, Sem.run_pure, hb0, if_true, hg, hd]
    · exact h.elim
  | lenS c t x hc hat ha ht =>
    simp only [pureP] at h
    obtain ⟨h1, h⟩ := h
    obtain ⟨cal, ⟨args⟩, ⟨ats⟩⟩ := c
    simp only at hc hat ha
    subst hc hat ha
    split at h
    · rename_i s hx
      refine ⟨_, h, fun ν a w O hR hO hp => ?_⟩
      have e1 := (opS hp (hO _ (by simp [IOp.uses])) h1)
      rw [hx] at e1
      have e1 := den_v e1
      refine ⟨_, rfl, ?_⟩
      simp [execOp, resolve, invoke, builtin, Builtin.len_, run_underlying ht, e1, goInt]
    · exact h.elim
  | slcs t x lo hi ht =>
    simp only [pureP] at h
    obtain ⟨h1, h⟩ := h
    split at h
    · rename_i s hx
      obtain ⟨h2, h3, h⟩ := h
      split at h
      · rename_i k1 l k2 hh hl hhh
        obtain ⟨hb, h⟩ := h
        refine ⟨_, h, fun ν a w O hR hO hp => ?_⟩
        have e1 := (opS hp (hO _ (by simp [IOp.uses])) h1)
        rw [hx] at e1
        have e1 := den_v e1
        obtain ⟨b0, b1, b2⟩ := hb hp
        refine ⟨_, rfl, ?_⟩
        have elo : (lo.map a.eval = none ∧ l = 0) ∨ lo.map a.eval = some (.int k1 l) := by
          cases lo with
          | none => simp only [sliceBnd, strip] at hl; injection hl with hl; injection hl with _ hl; exact .inl ⟨rfl, hl.symm⟩
          | some o =>
            have e2 := opS hp (hO o (by simp [IOp.uses])) h2
            simp only [sliceBnd] at hl
            rw [hl] at e2
            exact .inr (by rw [Option.map_some, den_v e2])
        have ehi : (hi.map a.eval = none ∧ hh = s.size) ∨ hi.map a.eval = some (.int k2 hh) := by
          cases hi with
          | none => simp only [sliceBnd, strip] at hhh; injection hhh with hl; injection hl with _ hl; exact .inl ⟨rfl, hl.symm⟩
          | some o =>
            have e2 := opS hp (hO o (by simp [IOp.uses])) h3
            simp only [sliceBnd] at hhh
            rw [hhh] at e2
            exact .inr (by rw [Option.map_some, den_v e2])
        have hrun := run_slice_str (P := P) w t ht s _ _ l hh k1 k2 elo ehi b0 b1 b2
        simp [execOp, e1, hrun]
      · exact h.elim
    · exact h.elim
  | max c x y hc ha =>
    simp only [pureP] at h
    obtain ⟨h1, h2, h⟩ := h
    obtain ⟨cal, ⟨args⟩, ats⟩ := c
    simp only at hc ha
    subst hc ha
    split at h
    · rename_i k q k' q' hx hy
      refine ⟨_, h, fun ν a w O hR hO hp => ?_⟩
      have e1 := (opS hp (hO _ (by simp [IOp.uses])) h1)
      have e2 := (opS hp (hO _ (by simp [IOp.uses])) h2)
      rw [hx] at e1
      rw [hy] at e2
      have e1 := den_v e1
      have e2 := den_v e2
      refine ⟨_, rfl, ?_⟩
      simp [execOp, resolve, invoke, builtin, Builtin.max_, Builtin.max2, e1, e2]
    · exact h.elim
  | min c x y hc ha =>
    simp only [pureP] at h
    obtain ⟨h1, h2, h⟩ := h
    obtain ⟨cal, ⟨args⟩, ats⟩ := c
    simp only at hc ha
    subst hc ha
    split at h
    · rename_i k q k' q' hx hy
      refine ⟨_, h, fun ν a w O hR hO hp => ?_⟩
      have e1 := (opS hp (hO _ (by simp [IOp.uses])) h1)
      have e2 := (opS hp (hO _ (by simp [IOp.uses])) h2)
      rw [hx] at e1
      rw [hy] at e2
      have e1 := den_v e1
      have e2 := den_v e2
      refine ⟨_, rfl, ?_⟩
      simp [execOp, resolve, invoke, builtin, Builtin.min_, Builtin.min2, e1, e2]
    · exact h.elim
  | build t ps fields i z r ht hi hz hall hpo =>
    simp only [pureP] at h
    obtain ⟨h1, h2, h⟩ := h
    refine ⟨_, h, fun ν a w O hR hO hp => ?_⟩
    obtain ⟨y, hd, hrun⟩ := build_sound (w := w) (a := a) ht hi hz hall hpo h1 h2 (by simpa [IOp.uses] using hO) hp
    exact ⟨y, hd, by simp [execOp, hrun]⟩
  | load t x i d hi hd =>
    simp only [pureP] at h
    obtain ⟨h1, h⟩ := h
    unfold loadJ at h
    split at h
    · obtain ⟨hf, h⟩ := h
      exact ⟨_, h, fun ν a w O hR hO hp => by rw [hf] at hp; cases hp⟩
    obtain ⟨r, hr, hall⟩ := loadP_sound h
    refine ⟨r, hr, fun ν a w O hR hO hp => ?_⟩
    obtain ⟨y, hy, hrun⟩ := hall P t i d ν w O _ hi hd rfl rfl hR (opS hp (hO _ (by simp [IOp.uses])) h1)
    exact ⟨y, hy, by simp [execOp, hrun]⟩
  | nilck x =>
    simp only [pureP] at h
    obtain ⟨h1, h⟩ := h
    have fin : ∀ (s : C), strip (ov x) = s → (∀ ν w O y, Den ν w O s y → (∃ ad, y = .pointer (some ad)) ∨ ∃ f u c, y = .func (.func f) u c) → ∀ ν a w O, HR ν w O rs → (∀ z ∈ (IOp.nilck x).uses, Den ν w O (ov z) (a.eval z)) → p = true →
        Yl P ν w O a { dst, op := .nilCheck x, type := ty, pos, after, guard } s := fun s he hk ν a w O hR hO hp => by
      have e1 := opS hp (hO x (by simp [IOp.uses])) h1
      rw [he] at e1
      refine ⟨_, e1, ?_⟩
      rcases hk ν _ _ _ e1 with ⟨ad, e2⟩ | ⟨f, u, c, e2⟩ <;> simp [execOp, e2]
    split at h
    · rename_i he; exact ⟨_, h, fin _ he fun ν w O y hy => by simp only [Den] at hy; obtain ⟨b, _, rfl⟩ := hy; exact .inl ⟨_, rfl⟩⟩
    · rename_i he; exact ⟨_, h, fin _ he fun ν w O y hy => by simp only [Den, Fz] at hy; obtain ⟨ad, rfl, _⟩ := hy; exact .inl ⟨_, rfl⟩⟩
    · rename_i he; exact ⟨_, h, fin _ he fun ν w O y hy => by simp only [Den] at hy; obtain ⟨b, n, c, _, rfl⟩ := hy; exact .inl ⟨_, rfl⟩⟩
    · rename_i he; exact ⟨_, h, fin _ he fun ν w O y hy => by simp only [Den] at hy; exact .inr ⟨_, _, _, hy⟩⟩
    · rename_i he; exact ⟨_, h, fin _ he fun ν w O y hy => by simp only [Den] at hy; obtain ⟨vs, _, rfl⟩ := hy; exact .inr ⟨_, _, _, rfl⟩⟩
    · exact h.elim
  | faddr s f fl sz x hf h0 =>
    simp only [pureP] at h
    obtain ⟨h1, h⟩ := h
    split at h
    · rename_i k o he
      refine ⟨_, h, fun ν a w O hR hO hp => ?_⟩
      have e1 := opS hp (hO x (by simp [IOp.uses])) h1
      rw [he] at e1
      simp only [Den] at e1
      obtain ⟨b, hb, e1⟩ := e1
      refine ⟨.pointer (some ⟨b, o + fl.offset, none⟩), ⟨b, hb, rfl⟩, ?_⟩
      have := run_fieldAt (P := P) w s f fl sz ⟨b, o, none⟩ hf h0
      rw [add_zero_off] at this
      simp [execOp, e1, this]
    · rename_i cs he
      obtain ⟨hoff, h⟩ := h
      refine ⟨_, h, fun ν a w O hR hO hp => ?_⟩
      have e1 := opS hp (hO x (by simp [IOp.uses])) h1
      rw [he] at e1
      simp only [Den, Fz] at e1
      obtain ⟨ad, e1, hlt, hno, hA⟩ := e1
      refine ⟨.pointer (some (ad.add fl.offset)), ?_, ?_⟩
      · simp only [Den, Fz]
        refine ⟨_, rfl, by rw [add_block]; exact hlt, by rw [add_block]; exact hno, ?_⟩
        obtain ⟨vs, k1, k2, k3⟩ := FzA.cells hA
        have hvl := k1.length
        refine FzA.of (vs := vs.drop fl.offset) ?_ (fun u hu => k2 u (List.mem_of_mem_drop hu)) fun i v hv => ?_
        · have : ∀ (n : Nat) (cs : List C) (vs : List Value), FzL w O cs vs → FzL w O (cs.drop n) (vs.drop n) := by
            intro n
            induction n with
            | zero => intro cs vs h; simpa using h
            | succ n ih =>
              intro cs vs h
              cases cs with
              | nil => simp only [FzL] at h; subst h; simp [FzL]
              | cons c cs => simp only [FzL] at h; obtain ⟨y, ys, rfl, _, h2⟩ := h; simpa using ih cs ys h2
          exact this _ _ _ k1
        · rw [List.getElem?_drop] at hv
          have := k3 _ _ hv
          rw [add_add']
          rw [← this]; congr 2; omega
      · have := run_fieldAt (P := P) w s f fl sz ad hf h0
        simp [execOp, e1, this]
    · rename_i k z i o he
      refine ⟨_, h, fun ν a w O hR hO hp => ?_⟩
      have e1 := opS hp (hO x (by simp [IOp.uses])) h1
      rw [he] at e1
      simp only [Den] at e1
      obtain ⟨b, n, c, hb, e1⟩ := e1
      refine ⟨.pointer (some ⟨b, i * z + (o + fl.offset), none⟩), ⟨b, n, c, hb, rfl⟩, ?_⟩
      have := run_fieldAt (P := P) w s f fl sz ⟨b, i * z + o, none⟩ hf h0
      rw [add_zero_off, Nat.add_assoc] at this
      simp [execOp, e1, this]
    · exact h.elim
  | iaddr t e ie x i ht hi =>
    simp only [pureP] at h
    obtain ⟨h1, h2, h⟩ := h
    split at h
    · rename_i z es kk q hx hq
      obtain ⟨hsz, hb, h⟩ := h
      subst hsz
      split at h
      · rename_i el hel
        refine ⟨_, h, fun ν a w O hR hO hp => ?_⟩
        have e1 := opS hp (hO x (by simp [IOp.uses])) h1
        have e2 := opS hp (hO i (by simp [IOp.uses])) h2
        rw [hx] at e1
        rw [hq] at e2
        have e2 := den_v e2
        simp only [Den, Fz] at e1
        obtain ⟨A, c, e1, hnc, hcm, hA⟩ := e1
        obtain ⟨hb0, hbn⟩ := hb hp
        obtain ⟨ad, rfl, hlt, hno, hE⟩ := hA (by omega)
        obtain ⟨hlen, hEl⟩ := FzE.get hE hel
        refine ⟨.pointer (some (ad.add (q.toNat * ie.size))), ?_, ?_⟩
        · simp only [Den, Fz]
          refine ⟨_, rfl, by rw [add_block]; exact hlt, by rw [add_block]; exact hno, ?_⟩
          refine FzA.shift (i := q.toNat * ie.size) (j := 0) ?_
          simpa using hEl
        · simp [execOp, e1, e2, Instr.indexAt, asIntOf, run_underlying ht, hb0, hbn, sizeOf, typeInfo, hi]
      · obtain ⟨hpf, h⟩ := h
        exact ⟨_, h, fun ν a w O hR hO hp => by rw [hpf] at hp; cases hp⟩
    · rename_i k kk q hx hq
      split at h
      · rename_i te z es hk
        obtain ⟨hsz, hb, h⟩ := h
        refine ⟨_, h, fun ν a w O hR hO hp => ?_⟩
        have e1 := opS hp (hO x (by simp [IOp.uses])) h1
        have e2 := opS hp (hO i (by simp [IOp.uses])) h2
        rw [hx] at e1
        rw [hq] at e2
        have e2 := den_v e2
        simp only [Den] at e1
        obtain ⟨hb0, hbn⟩ := hb hp
        obtain ⟨xk, hxk, hl, vs, hD, _, hown⟩ := hR k _ hk
        rw [hxk] at e1
        obtain ⟨e1, _⟩ := e1
        injection e1 with e1
        rcases hown.2 with ⟨hn0, _⟩ | ⟨g, cap, cur, hv, _⟩
        · omega
        · rw [hv] at e1 hxk
          have e1 := e1.symm
          refine ⟨.pointer (some ⟨g, q.toNat * ie.size, none⟩), ⟨g, es.length, cap, hxk, rfl⟩, ?_⟩
          have := add_zero_off g 0 (q.toNat * ie.size)
          rw [Nat.zero_add] at this
          simp [execOp, e1, e2, Instr.indexAt, asIntOf, run_underlying ht, hb0, hbn, sizeOf, typeInfo, hi, this]
      · exact h.elim
    · rename_i k z lo n kk q hx hq
      obtain ⟨hz, h⟩ := h
      subst hz
      split at h
      · rename_i te z' es hk
        obtain ⟨hz', hb, h⟩ := h
        refine ⟨_, h, fun ν a w O hR hO hp => ?_⟩
        have e1 := opS hp (hO x (by simp [IOp.uses])) h1
        have e2 := opS hp (hO i (by simp [IOp.uses])) h2
        rw [hx] at e1
        rw [hq] at e2
        have e2 := den_v e2
        simp only [Den] at e1
        obtain ⟨A, c, e1, hnc, hcm, hA⟩ := e1
        obtain ⟨⟨hb0, hbn⟩, hlo⟩ := hb hp
        obtain ⟨xv, b, hxv, hhead, hAe, _⟩ := hA (by omega)
        obtain ⟨xk, hxk, hl, vs, hD, _, hown⟩ := hR k _ hk
        rw [hxv] at hxk
        injection hxk with hxk
        subst hxk
        rcases hown.2 with ⟨hn0, _⟩ | ⟨g, cap, cur, hv, _⟩
        · omega
        · subst hv
          simp only [headOf, Option.some.injEq] at hhead
          subst hhead
          refine ⟨.pointer (some ⟨g, (lo + q.toNat) * ie.size, none⟩), ⟨g, es.length, cap, hxv, rfl⟩, ?_⟩
          have := add_zero_off g (lo * ie.size) (q.toNat * ie.size)
          rw [← Nat.add_mul] at this
          simp [execOp, e1, hAe, e2, Instr.indexAt, asIntOf, run_underlying ht, hb0, hbn, sizeOf, typeInfo, hi, this]
      · rename_i te cs hk
        obtain ⟨hb, h⟩ := h
        refine ⟨_, h, fun ν a w O hR hO hp => ?_⟩
        have e1 := opS hp (hO x (by simp [IOp.uses])) h1
        have e2 := opS hp (hO i (by simp [IOp.uses])) h2
        rw [hx] at e1
        rw [hq] at e2
        have e2 := den_v e2
        simp only [Den] at e1
        obtain ⟨A, c, e1, hnc, hcm, hA⟩ := e1
        obtain ⟨hb0, hbn⟩ := hb hp
        obtain ⟨xv, b, hxv, hhead, hAe, _⟩ := hA (by omega)
        obtain ⟨xk, hxk, b', vs, hv, _⟩ := hR k _ hk
        rw [hxv] at hxk
        injection hxk with hxk
        subst hxk
        subst hv
        simp only [headOf, Option.some.injEq] at hhead
        subst hhead
        refine ⟨.pointer (some ⟨b', lo * ie.size + q.toNat * ie.size, none⟩), ⟨b', hxv, rfl⟩, ?_⟩
        have := add_zero_off b' (lo * ie.size) (q.toNat * ie.size)
        simp [execOp, e1, hAe, e2, Instr.indexAt, asIntOf, run_underlying ht, hb0, hbn, sizeOf, typeInfo, hi, this]
      · exact h.elim
    · exact h.elim
  | iaddra t e n ie x i ht hi h0 =>
    simp only [pureP] at h
    obtain ⟨h1, h2, h⟩ := h
    split at h
    · rename_i k o kk q hx hq
      obtain ⟨hb, h⟩ := h
      refine ⟨_, h, fun ν a w O hR hO hp => ?_⟩
      have e1 := opS hp (hO x (by simp [IOp.uses])) h1
      have e2 := opS hp (hO i (by simp [IOp.uses])) h2
      rw [hx] at e1
      rw [hq] at e2
      have e2 := den_v e2
      simp only [Den] at e1
      obtain ⟨hb0, hbn⟩ := hb hp
      obtain ⟨b, hb', e1⟩ := e1
      refine ⟨.pointer (some ⟨b, o + q.toNat * ie.size, none⟩), ⟨b, hb', rfl⟩, ?_⟩
      have := add_zero_off b o (q.toNat * ie.size)
      simp [execOp, e1, e2, Instr.indexAt, asIntOf, run_underlying ht, hb0, hbn, sizeOf, typeInfo, hi, this, Instr.sureAddr]
    · exact h.elim
  | lenL c t e x hc hat ha ht =>
    simp only [pureP] at h
    obtain ⟨h1, h⟩ := h
    obtain ⟨cal, ⟨args⟩, ⟨ats⟩⟩ := c
    simp only at hc hat ha
    subst hc hat ha
    have fin : ∀ (n : Nat) (y : Value) (a : Act) (w : World), a.eval x = y → (∃ A c, y = .slice A n c) → (execOp a.eval { dst, op := .call ⟨.builtin .len, ⟨[x]⟩, ⟨[t]⟩⟩, type := ty, pos, after, guard }).run P w = .ok (.value (.int .i64 n)) w := by
      rintro n y a w e1 ⟨A, c, rfl⟩
      simp [execOp, resolve, invoke, builtin, Builtin.len_, run_underlying ht, e1, goInt]
    split at h
    · rename_i z es hx
      refine ⟨_, h, fun ν a w O hR hO hp => ?_⟩
      have e1 := opS hp (hO x (by simp [IOp.uses])) h1
      rw [hx] at e1
      simp only [Den, Fz] at e1
      obtain ⟨A, c, e1, _⟩ := e1
      exact ⟨_, rfl, fin _ _ a w e1 ⟨A, c, rfl⟩⟩
    · rename_i hx
      refine ⟨_, h, fun ν a w O hR hO hp => ?_⟩
      have e1 := opS hp (hO x (by simp [IOp.uses])) h1
      rw [hx] at e1
      simp only [Den] at e1
      obtain ⟨A, e1⟩ := e1
      exact ⟨_, rfl, fin 0 _ a w e1 ⟨A, 0, rfl⟩⟩
    · rename_i k hx
      split at h
      · rename_i te sz es hk
        refine ⟨_, h, fun ν a w O hR hO hp => ?_⟩
        have e1 := opS hp (hO x (by simp [IOp.uses])) h1
        rw [hx] at e1
        simp only [Den] at e1
        obtain ⟨xk, hxk, _, vs, _, _, hown⟩ := hR k _ hk
        rw [hxk] at e1
        obtain ⟨e1, _⟩ := e1
        injection e1 with e1
        refine ⟨_, rfl, fin _ _ a w e1.symm ?_⟩
        exact hown.slice
      · exact h.elim
    · rename_i hx
      refine ⟨_, h, fun ν a w O hR hO hp => ?_⟩
      have e1 := opS hp (hO x (by simp [IOp.uses])) h1
      rw [hx] at e1
      have e1 := den_v e1
      exact ⟨_, rfl, fin _ _ a w e1 ⟨_, _, rfl⟩⟩
    · rename_i k z lo n hx
      refine ⟨_, h, fun ν a w O hR hO hp => ?_⟩
      have e1 := opS hp (hO x (by simp [IOp.uses])) h1
      rw [hx] at e1
      simp only [Den] at e1
      obtain ⟨A, c, e1, _⟩ := e1
      exact ⟨_, rfl, fin _ _ a w e1 ⟨A, c, rfl⟩⟩
    · exact h.elim
  | toStr s d e x hs he hd =>
    simp only [pureP] at h
    obtain ⟨h1, h⟩ := h
    split at h
    · rename_i k hx
      split at h
      · rename_i te sz es hk
        split at h
        · rename_i l hl
          refine ⟨_, h, fun ν a w O hR hO hp => ?_⟩
          have e1 := opS hp (hO x (by simp [IOp.uses])) h1
          rw [hx] at e1
          simp only [Den] at e1
          obtain ⟨xk, hxk, hlen, vs, hD, _, hown⟩ := hR k _ hk
          rw [hxk] at e1
          obtain ⟨e1, _⟩ := e1
          injection e1 with e1
          obtain ⟨hone, hbu⟩ := bytesE_ints (w := w) (ν := ν) (O := O) hl
          obtain ⟨ns, rfl, rfl⟩ := hbu vs (hD.den ν)
          have hl1 : ns.length = es.length := by have h1 := hD.length; rw [flat_len hone] at h1; simpa using h1
          refine ⟨_, rfl, ?_⟩
          have hrun : (convert s d xk).run P w = .ok (.string ⟨(ns.map (fun n => UInt8.ofNat n.toNat)).toArray⟩) w := by
            rcases hown.2 with ⟨hn, A, hv⟩ | ⟨g, cap, cur, hv, _⟩
            · rw [hv]
              exact run_toStr s d e hs he hd A 0 0 ns (by omega) (fun h0 => absurd h0 (by omega))
            · have hown' := hown
              rw [hv] at hown'
              have hc := hown'.cells
              rw [hv]
              exact run_toStr s d e hs he hd _ es.length cap ns hl1 (fun _ => ⟨_, rfl, fun j u hu => hc j u hu⟩)
          simp [execOp, ← e1, hrun]
        · exact h.elim
      · exact h.elim
    · rename_i z es hx
      split at h
      · rename_i l hl
        refine ⟨_, h, fun ν a w O hR hO hp => ?_⟩
        have e1 := opS hp (hO x (by simp [IOp.uses])) h1
        rw [hx] at e1
        simp only [Den, Fz] at e1
        obtain ⟨A, c, e1, hnc, hcm, hA⟩ := e1
        obtain ⟨hone, hbu⟩ := bytesE_ints (w := w) (ν := ν) (O := O) hl
        rcases Nat.eq_zero_or_pos es.length with h0 | h0
        · have he : es = [] := List.eq_nil_of_length_eq_zero h0
          subst he
          simp only [bytesE, Option.some.injEq] at hl
          subst hl
          refine ⟨_, rfl, ?_⟩
          have := run_toStr (P := P) (w := w) s d e hs he hd A 0 c [] rfl (fun h => absurd h (by omega))
          simp only [List.map_nil] at this
          simp only [List.length_nil] at e1
          simp [execOp, e1, this]
        · obtain ⟨ad, rfl, hlt, hno, hE⟩ := hA h0
          obtain ⟨k0, vs, k1, k2, k3⟩ := FzE.cells hE
          obtain ⟨ns, rfl, rfl⟩ := hbu vs (k1.den ν)
          have hl1 : ns.length = es.length := by have h1 := k1.length; rw [flat_len hone] at h1; simpa using h1
          refine ⟨_, rfl, ?_⟩
          have := run_toStr (P := P) (w := w) s d e hs he hd (some ad) es.length c ns hl1 (fun _ => ⟨ad, rfl, k3⟩)
          simp [execOp, e1, this]
      · exact h.elim
    · rename_i hx
      refine ⟨_, h, fun ν a w O hR hO hp => ?_⟩
      have e1 := opS hp (hO x (by simp [IOp.uses])) h1
      rw [hx] at e1
      simp only [Den] at e1
      obtain ⟨A, e1⟩ := e1
      refine ⟨_, rfl, ?_⟩
      have := run_toStr (P := P) (w := w) s d e hs he hd A 0 0 [] rfl (fun h => absurd h (by omega))
      simp only [List.map_nil] at this
      simp [execOp, e1, this]
    · rename_i hx
      refine ⟨_, h, fun ν a w O hR hO hp => ?_⟩
      have e1 := opS hp (hO x (by simp [IOp.uses])) h1
      rw [hx] at e1
      have e1 := den_v e1
      refine ⟨_, rfl, ?_⟩
      have := run_toStr (P := P) (w := w) s d e hs he hd none 0 0 [] rfl (fun h => absurd h (by omega))
      simp only [List.map_nil] at this
      simp [execOp, e1, this]
    · rename_i k z lo n hx
      obtain ⟨hz, h⟩ := h
      subst hz
      have fin : ∀ (l : List UInt8) (es : List (List C)) (ν : List Value) (a : Act) (w : World) (O : Nat → Prop) (A : Option Addr) (c : Nat) (vs : List Value), bytesE es = some l → es.length = n → a.eval x = .slice A n c → DenL ν w O es.flatten vs → (0 < n → ∃ ad, A = some ad ∧ ∀ j u, vs[j]? = some u → w.cell? (ad.add j) = some u) →
          Yl P ν w O a { dst, op := .convert s d x, type := ty, pos, after, guard } (.v (.string ⟨l.toArray⟩)) := by
        intro l es ν a w O A c vs hl hen e1 hD hc
        obtain ⟨hone, hbu⟩ := bytesE_ints (w := w) (ν := ν) (O := O) hl
        obtain ⟨ns, rfl, rfl⟩ := hbu vs hD
        have hl1 : ns.length = es.length := by have h1 := hD.length; rw [flat_len hone] at h1; simpa using h1
        refine ⟨_, rfl, ?_⟩
        have := run_toStr (P := P) (w := w) s d e hs he hd A n c ns (by omega) hc
        simp [execOp, e1, this]
      split at h
      · rename_i te z' es hk
        obtain ⟨hz', hlo, h⟩ := h
        subst hz'
        split at h
        · rename_i l hl
          refine ⟨_, h, fun ν a w O hR hO hp => ?_⟩
          have hlo := hlo hp
          have e1 := opS hp (hO x (by simp [IOp.uses])) h1
          rw [hx] at e1
          simp only [Den] at e1
          obtain ⟨A, c, e1, hnc, hcm, hA⟩ := e1
          obtain ⟨xk, hxk, hlen, vs, hD, _, hown⟩ := hR k _ hk
          have hD := hD.den ν
          refine fin l _ ν a w O A c ((vs.drop lo).take n) hl (by rw [List.length_take, List.length_drop]; omega) e1 ?_ fun h0 => ?_
          · rw [flat_take fun q hq => hlen q (List.mem_of_mem_drop hq), flat_drop hlen, Nat.mul_one, Nat.mul_one]
            exact hD.sub lo n
          · obtain ⟨xv, b, hxv, hhead, hAe, _⟩ := hA (by omega)
            rw [hxv] at hxk
            injection hxk with hxk
            subst hxk
            rcases hown.2 with ⟨hn0, _⟩ | ⟨g, cap, cur, hv, _⟩
            · omega
            · subst hv
              simp only [headOf, Option.some.injEq] at hhead
              subst hhead
              refine ⟨_, hAe, fun j u hu => ?_⟩
              rw [List.getElem?_take] at hu
              split at hu
              · rw [List.getElem?_drop] at hu
                have := hown.cells _ _ hu
                rw [add_zero_off] at this ⊢
                rw [← this]; congr 2; omega
              · cases hu
        · exact h.elim
      · rename_i te cs hk
        obtain ⟨hlo, h⟩ := h
        split at h
        · rename_i l hl
          refine ⟨_, h, fun ν a w O hR hO hp => ?_⟩
          have hlo := hlo hp
          have e1 := opS hp (hO x (by simp [IOp.uses])) h1
          rw [hx] at e1
          simp only [Den] at e1
          obtain ⟨A, c, e1, hnc, hcm, hA⟩ := e1
          obtain ⟨xk, hxk, b', vs, hv, hD, _, hh⟩ := hR k _ hk
          refine fin l _ ν a w O A c ((vs.drop lo).take n) hl (by rw [List.length_map, List.length_take, List.length_drop]; omega) e1 ?_ fun h0 => ?_
          · have : (((cs.drop lo).take n).map sing).flatten = (cs.drop lo).take n := flat_sing _
            rw [this]
            exact hD.sub lo n
          · obtain ⟨xv, b, hxv, hhead, hAe, _⟩ := hA (by omega)
            rw [hxv] at hxk
            injection hxk with hxk
            subst hxk
            subst hv
            simp only [headOf, Option.some.injEq] at hhead
            subst hhead
            refine ⟨_, hAe, fun j u hu => ?_⟩
            rw [List.getElem?_take] at hu
            split at hu
            · rw [List.getElem?_drop] at hu
              rw [add_zero_off, Nat.mul_one, cell_of_row _ b' (lo + j) _ _ _ hh]
              simpa using hu
            · cases hu
        · exact h.elim
      · exact h.elim
    · exact h.elim
  | slcl t e ie x lo hi ht hi' =>
    simp only [pureP] at h
    obtain ⟨h1, h⟩ := h
    split at h
    · rename_i z es hx
      obtain ⟨hsz, h2, h3, h⟩ := h
      subst hsz
      split at h
      · rename_i k1 l k2 hh hl hhh
        obtain ⟨hb, h⟩ := h
        refine ⟨_, h, fun ν a w O hR hO hp => ?_⟩
        obtain ⟨b0, b1, b2⟩ := hb hp
        have e1 := opS hp (hO x (by simp [IOp.uses])) h1
        rw [hx] at e1
        simp only [Den, Fz] at e1
        obtain ⟨A, c, e1, hnc, hcm, hA⟩ := e1
        have elo : (lo.map a.eval = none ∧ l = 0) ∨ lo.map a.eval = some (.int k1 l) := by
          cases lo with
          | none => simp only [sliceBnd, strip] at hl; injection hl with hl; injection hl with _ hl; exact .inl ⟨rfl, hl.symm⟩
          | some o =>
            have e2 := opS hp (hO o (by simp [IOp.uses])) h2
            simp only [sliceBnd] at hl
            rw [hl] at e2
            exact .inr (by rw [Option.map_some, den_v e2])
        have ehi : (hi.map a.eval = none ∧ hh = es.length) ∨ hi.map a.eval = some (.int k2 hh) := by
          cases hi with
          | none => simp only [sliceBnd, strip] at hhh; injection hhh with hl; injection hl with _ hl; exact .inl ⟨rfl, hl.symm⟩
          | some o =>
            have e2 := opS hp (hO o (by simp [IOp.uses])) h3
            simp only [sliceBnd] at hhh
            rw [hhh] at e2
            exact .inr (by rw [Option.map_some, den_v e2])
        have hrun := run_slice_sub (P := P) w t e ie ht hi' A es.length c (lo.map a.eval) (hi.map a.eval) l hh k1 k2 elo ehi b0 b1 b2 hnc
        have hlen : ((es.drop l.toNat).take (hh.toNat - l.toNat)).length = hh.toNat - l.toNat := by
          rw [List.length_take, List.length_drop]; omega
        refine ⟨sliced A l.toNat hh.toNat c ie.size, ?_, ?_⟩
        · simp only [Den, Fz]
          refine ⟨(if c = l.toNat then A else A.map (·.add (l.toNat * ie.size))), c - l.toNat, ?_, by rw [hlen]; omega, by omega, fun h0 => ?_⟩
          · rw [hlen]; rfl
          · rw [hlen] at h0
            have hne : ¬ c = l.toNat := by omega
            have hpos : 0 < es.length := by omega
            obtain ⟨ad, rfl, hlt, hno, hE⟩ := hA hpos
            refine ⟨ad.add (l.toNat * ie.size), by rw [if_neg hne]; rfl, by rw [add_block]; exact hlt, by rw [add_block]; exact hno, FzE.of fun k q hq => ?_⟩
            rw [List.getElem?_take] at hq
            split at hq
            · rw [List.getElem?_drop] at hq
              obtain ⟨g1, g2⟩ := FzE.get hE hq
              refine ⟨g1, FzA.shift ?_⟩
              have : (0 + (l.toNat + k)) * ie.size = l.toNat * ie.size + (0 + k) * ie.size := by rw [Nat.zero_add, Nat.zero_add, Nat.add_mul]
              rw [← this]; exact g2
            · cases hq
        · simp only [execOp, e1]
          cases lo <;> cases hi <;> (simp only [Option.map_none, Option.map_some] at hrun ⊢; simp [hrun])
      · exact h.elim
    · rename_i k z lo' n hx
      obtain ⟨hsz, h2, h3, h⟩ := h
      subst hsz
      split at h
      · rename_i k1 l k2 hh hl hhh
        obtain ⟨hb, h⟩ := h
        refine ⟨_, h, fun ν a w O hR hO hp => ?_⟩
        obtain ⟨b0, b1, b2⟩ := hb hp
        have e1 := opS hp (hO x (by simp [IOp.uses])) h1
        rw [hx] at e1
        simp only [Den] at e1
        obtain ⟨A, c, e1, hnc, hcm, hA⟩ := e1
        have elo : (lo.map a.eval = none ∧ l = 0) ∨ lo.map a.eval = some (.int k1 l) := by
          cases lo with
          | none => simp only [sliceBnd, strip] at hl; injection hl with hl; injection hl with _ hl; exact .inl ⟨rfl, hl.symm⟩
          | some o =>
            have e2 := opS hp (hO o (by simp [IOp.uses])) h2
            simp only [sliceBnd] at hl
            rw [hl] at e2
            exact .inr (by rw [Option.map_some, den_v e2])
        have ehi : (hi.map a.eval = none ∧ hh = n) ∨ hi.map a.eval = some (.int k2 hh) := by
          cases hi with
          | none => simp only [sliceBnd, strip] at hhh; injection hhh with hl; injection hl with _ hl; exact .inl ⟨rfl, hl.symm⟩
          | some o =>
            have e2 := opS hp (hO o (by simp [IOp.uses])) h3
            simp only [sliceBnd] at hhh
            rw [hhh] at e2
            exact .inr (by rw [Option.map_some, den_v e2])
        have hrun := run_slice_sub (P := P) w t e ie ht hi' A n c (lo.map a.eval) (hi.map a.eval) l hh k1 k2 elo ehi b0 b1 b2 hnc
        refine ⟨sliced A l.toNat hh.toNat c ie.size, ?_, ?_⟩
        · simp only [Den]
          refine ⟨(if c = l.toNat then A else A.map (·.add (l.toNat * ie.size))), c - l.toNat, rfl, by omega, by omega, fun h0 => ?_⟩
          have hne : ¬ c = l.toNat := by omega
          obtain ⟨xv, b, g1, g2, rfl, g3⟩ := hA (by omega)
          refine ⟨xv, b, g1, g2, ?_, by rw [show lo' + l.toNat + (c - l.toNat) = lo' + c by omega]; exact g3⟩
          rw [if_neg hne, Option.map_some, add_zero_off, ← Nat.add_mul]
        · simp only [execOp, e1]
          cases lo <;> cases hi <;> (simp only [Option.map_none, Option.map_some] at hrun ⊢; simp [hrun])
      · exact h.elim
    · rename_i k hx
      split at h
      · rename_i te z es hk
        obtain ⟨hsz, h2, h3, h⟩ := h
        subst hsz
        split at h
        · rename_i k1 l k2 hh hl hhh
          obtain ⟨hb, h⟩ := h
          refine ⟨_, h, fun ν a w O hR hO hp => ?_⟩
          obtain ⟨b0, b1, b2⟩ := hb hp
          have e1 := opS hp (hO x (by simp [IOp.uses])) h1
          rw [hx] at e1
          simp only [Den] at e1
          obtain ⟨xk, hxk, hlen, vs, hD, _, hown⟩ := hR k _ hk
          obtain ⟨e0, _⟩ := e1
          have hxe := hxk
          rw [e0] at hxe
          injection hxe with hxe
          obtain ⟨A, c, e1, hnc, hcm, hA⟩ : ∃ A c, a.eval x = .slice A es.length c ∧ es.length ≤ c ∧ c ≤ maxLen ∧ (0 < c → ∃ g, xk = .slice (some ⟨g, 0, none⟩) es.length c ∧ A = some ⟨g, 0, none⟩) := by
            rcases hown.2 with ⟨hn0, A, hv⟩ | ⟨g, cap, cur, hv, _, _, hnc, hcm, _⟩
            · exact ⟨A, 0, by rw [hxe, hv, hn0], by omega, Nat.zero_le _, fun h => by omega⟩
            · exact ⟨_, cap, by rw [hxe, hv], hnc, hcm, fun _ => ⟨g, hv, rfl⟩⟩
          have elo : (lo.map a.eval = none ∧ l = 0) ∨ lo.map a.eval = some (.int k1 l) := by
            cases lo with
            | none => simp only [sliceBnd, strip] at hl; injection hl with hl; injection hl with _ hl; exact .inl ⟨rfl, hl.symm⟩
            | some o =>
              have e2 := opS hp (hO o (by simp [IOp.uses])) h2
              simp only [sliceBnd] at hl
              rw [hl] at e2
              exact .inr (by rw [Option.map_some, den_v e2])
          have ehi : (hi.map a.eval = none ∧ hh = es.length) ∨ hi.map a.eval = some (.int k2 hh) := by
            cases hi with
            | none => simp only [sliceBnd, strip] at hhh; injection hhh with hl; injection hl with _ hl; exact .inl ⟨rfl, hl.symm⟩
            | some o =>
              have e2 := opS hp (hO o (by simp [IOp.uses])) h3
              simp only [sliceBnd] at hhh
              rw [hhh] at e2
              exact .inr (by rw [Option.map_some, den_v e2])
          have hrun := run_slice_sub (P := P) w t e ie ht hi' A es.length c (lo.map a.eval) (hi.map a.eval) l hh k1 k2 elo ehi b0 b1 b2 hnc
          refine ⟨sliced A l.toNat hh.toNat c ie.size, ?_, ?_⟩
          · simp only [Den]
            refine ⟨(if c = l.toNat then A else A.map (·.add (l.toNat * ie.size))), c - l.toNat, rfl, by omega, by omega, fun h0 => ?_⟩
            have hne : ¬ c = l.toNat := by omega
            obtain ⟨g, hv, rfl⟩ := hA (by omega)
            refine ⟨xk, g, hxk, by rw [hv]; rfl, ?_, by rw [hv]; show c = _; omega⟩
            rw [if_neg hne, Option.map_some, add_zero_off, Nat.zero_add]
          · simp only [execOp, e1]
            cases lo <;> cases hi <;> (simp only [Option.map_none, Option.map_some] at hrun ⊢; simp [hrun])
        · exact h.elim
      · exact h.elim
    · rename_i hx
      obtain ⟨h2, h3, h⟩ := h
      split at h
      · rename_i k1 l k2 hh hl hhh
        obtain ⟨hb, h⟩ := h
        refine ⟨_, h, fun ν a w O hR hO hp => ?_⟩
        obtain ⟨rfl, rfl⟩ := hb hp
        have e1 := opS hp (hO x (by simp [IOp.uses])) h1
        rw [hx] at e1
        have e1 := den_v e1
        have elo : (lo.map a.eval = none ∧ (0 : Int) = 0) ∨ lo.map a.eval = some (.int k1 0) := by
          cases lo with
          | none => exact .inl ⟨rfl, rfl⟩
          | some o =>
            have e2 := opS hp (hO o (by simp [IOp.uses])) h2
            simp only [sliceBnd] at hl
            rw [hl] at e2
            exact .inr (by rw [Option.map_some, den_v e2])
        have ehi : (hi.map a.eval = none ∧ (0 : Int) = ((0 : Nat) : Int)) ∨ hi.map a.eval = some (.int k2 0) := by
          cases hi with
          | none => exact .inl ⟨rfl, rfl⟩
          | some o =>
            have e2 := opS hp (hO o (by simp [IOp.uses])) h3
            simp only [sliceBnd] at hhh
            rw [hhh] at e2
            exact .inr (by rw [Option.map_some, den_v e2])
        have hrun := run_slice_sub (P := P) w t e ie ht hi' none 0 0 (lo.map a.eval) (hi.map a.eval) 0 0 k1 k2 elo ehi (by omega) (by omega) (by omega) (Nat.le_refl _)
        refine ⟨sliced none (0 : Int).toNat (0 : Int).toNat 0 ie.size, by simp [Den, sliced], ?_⟩
        simp only [execOp, e1]
        cases lo <;> cases hi <;> (simp only [Option.map_none, Option.map_some] at hrun ⊢; simp [hrun])
      · exact h.elim
    · exact h.elim
  | sub64 c f x y b hc hcl ha =>
    simp only [pureP] at h
    obtain ⟨h1, h2, h3, h⟩ := h
    obtain ⟨cal, ⟨args⟩, ats⟩ := c
    simp only at hc ha
    subst hc ha
    split at h
    · rename_i va vc vd hx hy hb
      obtain ⟨hbd, h⟩ := h
      refine ⟨_, h, fun ν a w O hR hO hp => ?_⟩
      obtain ⟨b1, ⟨b2, b3⟩, b4, b5⟩ := hbd hp
      have e1 := opS hp (hO x (by simp [IOp.uses])) h1
      have e2 := opS hp (hO y (by simp [IOp.uses])) h2
      have e3 := opS hp (hO b (by simp [IOp.uses])) h3
      rw [hx] at e1
      rw [hy] at e2
      rw [hb] at e3
      have e1 := den_v e1
      have e2 := den_v e2
      have e3 := den_v e3
      obtain ⟨na, rfl⟩ := Int.eq_ofNat_of_zero_le b1
      obtain ⟨nc, rfl⟩ := Int.eq_ofNat_of_zero_le b2
      obtain ⟨nd, rfl⟩ := Int.eq_ofNat_of_zero_le b4
      have hrun := call_sub64 hcl na nc nd (by omega) w
      have w1 : ((na : Int) + 18446744073709551616 - (nc : Int) - (nd : Int)) % 18446744073709551616 = (((na + 18446744073709551616 - nc - nd) % 18446744073709551616 : Nat) : Int) := by omega
      have w2 : (if (na : Int) < (nc : Int) + (nd : Int) then (1 : Int) else 0) = ((if na < nc + nd then 1 else 0 : Nat) : Int) := by
        split <;> split <;> omega
      rw [w1, w2]
      refine ⟨_, ⟨_, DenL.vs [_, _], rfl⟩, ?_⟩
      have hex : execOp a.eval { dst, op := .call { callee := .value (.func f), args := ⟨[x, y, b]⟩, argTypes := ats }, type := ty, pos, after, guard } = callFunc f #[a.eval x, a.eval y, a.eval b] := by
        have : execOp a.eval { dst, op := .call { callee := .value (.func f), args := ⟨[x, y, b]⟩, argTypes := ats }, type := ty, pos, after, guard } = callFunc f (#[] ++ Array.map a.eval ⟨[x, y, b]⟩ ++ #[]) := rfl
        rw [this]
        simp
      rw [hex, e1, e2, e3]
      exact hrun
    · exact h.elim
  | cap c t e x hc hat ha ht =>
    simp only [pureP] at h
    obtain ⟨h1, h⟩ := h
    obtain ⟨cal, ⟨args⟩, ⟨ats⟩⟩ := c
    simp only at hc hat ha
    subst hc hat ha
    have fin : ∀ (y : Value) (a : Act) (w : World), a.eval x = y → (∃ A, y = .slice A 0 0) → (execOp a.eval { dst, op := .call ⟨.builtin .cap, ⟨[x]⟩, ⟨[t]⟩⟩, type := ty, pos, after, guard }).run P w = .ok (.value (.int .i64 0)) w := by
      rintro y a w e1 ⟨A, rfl⟩
      simp [execOp, resolve, invoke, builtin, Builtin.cap_, run_underlying ht, e1, goInt]
    split at h
    · rename_i hx
      refine ⟨_, h, fun ν a w O hR hO hp => ?_⟩
      have e1 := opS hp (hO x (by simp [IOp.uses])) h1
      rw [hx] at e1
      have e1 := den_v e1
      exact ⟨_, rfl, fin _ a w e1 ⟨_, rfl⟩⟩
    · rename_i hx
      refine ⟨_, h, fun ν a w O hR hO hp => ?_⟩
      have e1 := opS hp (hO x (by simp [IOp.uses])) h1
      rw [hx] at e1
      simp only [Den] at e1
      obtain ⟨A, e1⟩ := e1
      exact ⟨_, rfl, fin _ a w e1 ⟨A, rfl⟩⟩
    · exact h.elim
  | slca t e n ie x ht hi =>
    simp only [pureP] at h
    obtain ⟨h1, h⟩ := h
    split at h
    · rename_i k hx
      obtain ⟨hn, h⟩ := h
      refine ⟨_, h, fun ν a w O hR hO hp => ?_⟩
      have e1 := opS hp (hO x (by simp [IOp.uses])) h1
      rw [hx] at e1
      simp only [Den] at e1
      obtain ⟨b, hb, e1⟩ := e1
      refine ⟨.slice (some ⟨b, 0, none⟩) n n, ⟨_, n, rfl, Nat.le_refl _, by unfold maxLen; omega, fun _ => ⟨_, b, hb, rfl, by rw [Nat.zero_mul], trivial⟩⟩, ?_⟩
      have hbd : (Instr.sliceBounds false n n none none none).run P w = .ok (0, n, n) w := by simp [Instr.sliceBounds]
      have h2 : (Instr.sliceAt t (.pointer (some ⟨b, 0, none⟩)) none none none).run P w = .ok (.slice (some ⟨b, 0, none⟩) n n) w := by
        unfold Instr.sliceAt
        simp only [Sem.run_bind, run_underlying ht, Result.andThen_ok, Instr.sureAddr, Sem.run_pure, hbd, sizeOf, typeInfo, run_program, hi]
        have := add_zero_off b 0 (0 * ie.size)
        rw [this]
        simp
      simp [execOp, e1, h2]
    · exact h.elim
  | zcap t e x lo hi mx ie ht hi' hb =>
    simp only [pureP] at h
    obtain ⟨h1, h⟩ := h
    obtain ⟨rfl, ⟨k1, rfl⟩, ⟨k2, rfl⟩⟩ : lo = none ∧ (∃ k, hi = some (.const (.int k 0))) ∧ ∃ k, mx = .const (.int k 0) := by
      unfold isZeroSl at hb
      split at hb
      · rename_i e1 e2 e3
        injection e3 with e3
        exact ⟨rfl, ⟨_, rfl⟩, ⟨_, e3⟩⟩
      · cases hb
    have he : P.elem t = e := by simp [Program.elem, ht]
    have fin : ∀ (y : Value) (a : Act) (w : World), a.eval x = y → (∃ A n c, y = .slice A n c) → ∃ A, (execOp a.eval { dst, op := .slice t x none (some (.const (.int k1 0))) (some (.const (.int k2 0))), type := ty, pos, after, guard }).run P w = .ok (.value (.slice A 0 0)) w := by
      rintro y a w e1 ⟨A, n, c, rfl⟩
      have ht' : P.underlying t = some (.slice (P.elem t)) := by rw [he]; exact ht
      refine ⟨A, ?_⟩
      have hbd : (Instr.sliceBounds true n c none (some (.int k1 0)) (some (.int k2 0))).run P w = .ok (0, 0, 0) w := by
        have c1 : (0 : Int) ≤ (c : Int) := by omega
        simp [Instr.sliceBounds, Instr.sliceBound, asIntOf]
      have h2 : (Instr.sliceAt t (.slice A n c) none (some (.int k1 0)) (some (.int k2 0))).run P w = .ok (.slice A 0 0) w := by
        unfold Instr.sliceAt
        simp only [Sem.run_bind, run_underlying ht, Result.andThen_ok]
        unfold Instr.slice
        simp only [Sem.run_bind, run_underlying ht, Result.andThen_ok, hbd, sizeOf, typeInfo, run_program, hi', Sem.run_pure]
        simp
      have h3 : (execOp a.eval { dst, op := .slice t x none (some (.const (.int k1 0))) (some (.const (.int k2 0))), type := ty, pos, after, guard }) = (do pure (.value (← Instr.sliceAt t (a.eval x) none (some (.int k1 0)) (some (.int k2 0))))) := rfl
      rw [h3, e1, Sem.run_bind, h2]
      rfl
    have done : ∀ (s : C), strip (ov x) = s → (∀ ν w O y, Den ν w O s y → ∃ A n c, y = .slice A n c) → ∀ ν a w O, HR ν w O rs → (∀ z ∈ (IOp.zcap x).uses, Den ν w O (ov z) (a.eval z)) → p = true →
        Yl P ν w O a { dst, op := .slice t x none (some (.const (.int k1 0))) (some (.const (.int k2 0))), type := ty, pos, after, guard } .nl := fun s he hk ν a w O hR hO hp => by
      have e1 := opS hp (hO x (by simp [IOp.uses])) h1
      rw [he] at e1
      obtain ⟨A, hrun⟩ := fin _ a w rfl (hk _ _ _ _ e1)
      exact ⟨_, ⟨A, rfl⟩, hrun⟩
    split at h
    · rename_i hx; exact ⟨_, h, done _ hx fun ν w O y hy => by simp only [Den, Fz] at hy; obtain ⟨A, c, rfl, _⟩ := hy; exact ⟨_, _, _, rfl⟩⟩
    · rename_i hx; exact ⟨_, h, done _ hx fun ν w O y hy => by simp only [Den] at hy; exact hy.2⟩
    · rename_i hx; exact ⟨_, h, done _ hx fun ν w O y hy => by simp only [Den] at hy; obtain ⟨A, rfl⟩ := hy; exact ⟨_, _, _, rfl⟩⟩
    · rename_i hx; exact ⟨_, h, done _ hx fun ν w O y hy => by simp only [Den] at hy; exact ⟨_, _, _, hy⟩⟩
    · exact h.elim
  | aeqT t yt x y ks hg hl hs =>
    simp only [pureP] at h
    obtain ⟨h1, h2, h⟩ := h
    split at h
    · rename_i cs ds hx hy
      obtain ⟨r, hr, hall⟩ := eqC_sound h
      refine ⟨_, hr, fun ν a w O hR hO hp => ?_⟩
      obtain ⟨⟨xs⟩, e1, hD1⟩ := aggCells_den (opS hp (hO x (by simp [IOp.uses])) h1) hx
      obtain ⟨⟨ys⟩, e2, hD2⟩ := aggCells_den (opS hp (hO y (by simp [IOp.uses])) h2) hy
      have hrun := run_aeq (P := P) (w := w) hl hs (hall ν w O _ _ hD1 hD2)
      refine ⟨.bool r, rfl, ?_⟩
      simp only [execOp, e1, e2, Sem.run_bind, run_eqGuard_agg _ _ _ _ _ _ _ hg, run_eql_struct, hrun, Result.andThen_ok]
      rfl
    · exact h.elim
  | aeqF t yt x y ks hg hl hs =>
    simp only [pureP] at h
    obtain ⟨h1, h2, h⟩ := h
    split at h
    · rename_i cs ds hx hy
      obtain ⟨r, hr, hall⟩ := eqC_sound h
      refine ⟨_, hr, fun ν a w O hR hO hp => ?_⟩
      obtain ⟨⟨xs⟩, e1, hD1⟩ := aggCells_den (opS hp (hO x (by simp [IOp.uses])) h1) hx
      obtain ⟨⟨ys⟩, e2, hD2⟩ := aggCells_den (opS hp (hO y (by simp [IOp.uses])) h2) hy
      have hrun := run_aeq (P := P) (w := w) hl hs (hall ν w O _ _ hD1 hD2)
      refine ⟨.bool (!r), rfl, ?_⟩
      simp only [execOp, e1, e2, Sem.run_bind, run_eqGuard_agg _ _ _ _ _ _ _ hg, run_neq_struct, hrun, Result.andThen_ok]
      rfl
    · exact h.elim
  | nilIT t yt x hs =>
    obtain ⟨ms, hs⟩ := hs
    simp only [pureP] at h
    obtain ⟨h1, h⟩ := h
    have hrun : ∀ (a : Act) (w : World) z b, a.eval x = z → ifcV z = some b → (execOp a.eval { dst, op := .binOp .eql t x (.const .nilIface) yt, type := ty, pos, after, guard }).run P w = .ok (.value (.bool b)) w := by
      intro a w z b hz hb
      have h0 : a.eval (.const .nilIface) = .nilIface := rfl
      simp [execOp, hz, h0, run_ifc_guard (P := P) hb, run_bin_eql hb (run_ifc_nil (P := P) (w := w) hs hb)]
    split at h
    · rename_i hx
      refine ⟨_, h, fun ν a w O hR hO hp => ⟨.bool true, rfl, ?_⟩⟩
      have e1 := opS hp (hO x (by simp [IOp.uses])) h1
      rw [hx] at e1
      exact hrun a w _ true (den_v e1) rfl
    · rename_i q1 q2 hx
      refine ⟨_, h, fun ν a w O hR hO hp => ⟨.bool false, rfl, ?_⟩⟩
      have e1 := opS hp (hO x (by simp [IOp.uses])) h1
      rw [hx] at e1
      exact hrun a w _ false (den_v e1) rfl
    · rename_i S hx
      obtain ⟨hS, h⟩ := h
      refine ⟨_, h, fun ν a w O hR hO hp => ?_⟩
      have e1 := opS hp (hO x (by simp [IOp.uses])) h1
      rw [hx] at e1
      simp only [Den] at e1
      obtain ⟨b, hb⟩ := Option.isSome_iff_exists.1 (hS _ e1)
      exact ⟨.bool b, ⟨_, b, e1, hb, rfl⟩, hrun a w _ b rfl hb⟩
    · exact h.elim
  | nilIF t yt x hs =>
    obtain ⟨ms, hs⟩ := hs
    simp only [pureP] at h
    obtain ⟨h1, h⟩ := h
    have hrun : ∀ (a : Act) (w : World) z b, a.eval x = z → ifcV z = some b → (execOp a.eval { dst, op := .binOp .neq t x (.const .nilIface) yt, type := ty, pos, after, guard }).run P w = .ok (.value (.bool (!b))) w := by
      intro a w z b hz hb
      have h0 : a.eval (.const .nilIface) = .nilIface := rfl
      simp [execOp, hz, h0, run_ifc_guard (P := P) hb, run_bin_neq hb (run_ifc_nil (P := P) (w := w) hs hb)]
    split at h
    · rename_i hx
      refine ⟨_, h, fun ν a w O hR hO hp => ⟨.bool false, rfl, ?_⟩⟩
      have e1 := opS hp (hO x (by simp [IOp.uses])) h1
      rw [hx] at e1
      exact hrun a w _ true (den_v e1) rfl
    · rename_i q1 q2 hx
      refine ⟨_, h, fun ν a w O hR hO hp => ⟨.bool true, rfl, ?_⟩⟩
      have e1 := opS hp (hO x (by simp [IOp.uses])) h1
      rw [hx] at e1
      exact hrun a w _ false (den_v e1) rfl
    · rename_i S hx
      obtain ⟨hS, h⟩ := h
      refine ⟨_, h, fun ν a w O hR hO hp => ?_⟩
      have e1 := opS hp (hO x (by simp [IOp.uses])) h1
      rw [hx] at e1
      simp only [Den] at e1
      obtain ⟨b, hb⟩ := Option.isSome_iff_exists.1 (hS _ e1)
      exact ⟨.bool (!b), ⟨_, b, e1, hb, rfl⟩, hrun a w _ b rfl hb⟩
    · exact h.elim
  | nilST t yt x hs =>
    obtain ⟨e, hs⟩ := hs
    simp only [pureP] at h
    obtain ⟨h1, h⟩ := h
    have hrun : ∀ (a : Act) (w : World) A l c, a.eval x = .slice A l c → (execOp a.eval { dst, op := .binOp .eql t x (.const (.slice none 0 0)) yt, type := ty, pos, after, guard }).run P w = .ok (.value (.bool A.isNone)) w := by
      intro a w A l c hz
      have h0 : a.eval (.const (.slice none 0 0)) = .slice none 0 0 := rfl
      simp [execOp, hz, h0, eqGuard, binOp, run_equal_slice_nil w t e A l c hs]
    split at h
    · rename_i hx
      refine ⟨_, h, fun ν a w O hR hO hp => ⟨.bool true, rfl, ?_⟩⟩
      have e1 := opS hp (hO x (by simp [IOp.uses])) h1
      rw [hx] at e1
      exact hrun a w _ _ _ (den_v e1)
    · rename_i hx
      refine ⟨_, h, fun ν a w O hR hO hp => ?_⟩
      have e1 := opS hp (hO x (by simp [IOp.uses])) h1
      rw [hx] at e1
      simp only [Den] at e1
      obtain ⟨A, e1⟩ := e1
      exact ⟨_, ⟨_, rfl⟩, hrun a w _ _ _ e1⟩
    · rename_i es hx
      refine ⟨_, h, fun ν a w O hR hO hp => ?_⟩
      have e1 := opS hp (hO x (by simp [IOp.uses])) h1
      rw [hx] at e1
      simp only [Den, Fz] at e1
      obtain ⟨A, c, e1, _, _, hA⟩ := e1
      refine ⟨_, ⟨_, rfl, fun hne => ?_⟩, hrun a w _ _ _ e1⟩
      obtain ⟨ad, rfl, _⟩ := hA (List.length_pos_iff.2 hne)
      rfl
    · exact h.elim
  | nilSF t yt x hs =>
    obtain ⟨e, hs⟩ := hs
    simp only [pureP] at h
    obtain ⟨h1, h⟩ := h
    have hrun : ∀ (a : Act) (w : World) A l c, a.eval x = .slice A l c → (execOp a.eval { dst, op := .binOp .neq t x (.const (.slice none 0 0)) yt, type := ty, pos, after, guard }).run P w = .ok (.value (.bool (!A.isNone))) w := by
      intro a w A l c hz
      have h0 : a.eval (.const (.slice none 0 0)) = .slice none 0 0 := rfl
      simp [execOp, hz, h0, eqGuard, binOp, run_equal_slice_nil w t e A l c hs]
    split at h
    · rename_i hx
      refine ⟨_, h, fun ν a w O hR hO hp => ⟨.bool false, rfl, ?_⟩⟩
      have e1 := opS hp (hO x (by simp [IOp.uses])) h1
      rw [hx] at e1
      exact hrun a w _ _ _ (den_v e1)
    · rename_i hx
      refine ⟨_, h, fun ν a w O hR hO hp => ?_⟩
      have e1 := opS hp (hO x (by simp [IOp.uses])) h1
      rw [hx] at e1
      simp only [Den] at e1
      obtain ⟨A, e1⟩ := e1
      exact ⟨_, ⟨_, rfl⟩, hrun a w _ _ _ e1⟩
    · rename_i es hx
      refine ⟨_, h, fun ν a w O hR hO hp => ?_⟩
      have e1 := opS hp (hO x (by simp [IOp.uses])) h1
      rw [hx] at e1
      simp only [Den, Fz] at e1
      obtain ⟨A, c, e1, _, _, hA⟩ := e1
      refine ⟨_, ⟨_, rfl, fun hne => ?_⟩, hrun a w _ _ _ e1⟩
      obtain ⟨ad, rfl, _⟩ := hA (List.length_pos_iff.2 hne)
      rfl
    · exact h.elim
  | clo f first caps hf =>
    simp only [pureP] at h
    obtain ⟨h1, h⟩ := h
    refine ⟨_, h, fun ν a w O hR hO hp => ?_⟩
    have hf0 : first = #[] := Array.eq_empty_of_size_eq_zero hf
    subst hf0
    refine ⟨.func (.func f) #[] (caps.toList.map a.eval).toArray, ⟨_, argsV_den hp h1 hO, rfl⟩, ?_⟩
    obtain ⟨caps⟩ := caps
    simp [execOp, Instr.makeFunc]
  | lkp t e str ok m k i z hk hi hz =>
    simp only [pureP] at h
    obtain ⟨h1, h2, h⟩ := h
    split at h
    · rename_i j key hm hkey
      split at h
      · rename_i s es hj
        obtain ⟨hs, hko, h⟩ := h
        subst hs
        refine ⟨_, h, fun ν a w O hR hO hp => ?_⟩
        have e1 := opS hp (hO m (by simp [IOp.uses])) h1
        have e2 := opS hp (hO k (by simp [IOp.uses])) h2
        rw [hm] at e1
        rw [hkey] at e2
        have e2 := den_v e2
        simp only [Den] at e1
        obtain ⟨xk, hxk, b, ents, clock, rfl, hb, rfl, hks⟩ := hR j _ hj
        rw [hxk] at e1
        obtain ⟨e1, _⟩ := e1
        injection e1 with e1
        have hrun := run_lookup (P := P) (w := w) (ok := ok) hk hi hz hb (fun x hx => hks _ (List.mem_map.2 ⟨x, hx, rfl⟩)) (hko hp)
        refine ⟨_, ?_, by simp only [execOp, ← e1, e2, Sem.run_bind, hrun]; rfl⟩
        cases hf : mfind key (ents.toList.map fun e => (e.key, e.val)) with
        | none => cases ok <;> simp only [lkpV, Den, DenL] <;> simp
        | some u => cases ok <;> simp only [lkpV, Den, DenL] <;> simp
      · exact h.elim
    · exact h.elim
  | _ => exact (h : False).elim
end
end Go.Proofs.YtaicmkocmnikjaaDoor.Eng
