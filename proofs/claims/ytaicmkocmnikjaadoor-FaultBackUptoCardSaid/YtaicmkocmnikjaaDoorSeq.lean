/- Structs of numbers, strings and bools, compared. -/
import Derived.Test.YtaicmkocmnikjaaDoorInv
import Derived.Laws.StructEq
import Derived.Laws.Cover3
namespace Go.Proofs.YtaicmkocmnikjaaDoor.Eng
set_option linter.all false
open Go Go.RowKit

def eqV : List LK → List Value → List Value → Option Bool
  | [], [], [] => some true
  | .i :: ks, .int k a :: xs, .int k' b :: ys => if k = k' then (eqV ks xs ys).map fun r => decide (a = b) && r else none
  | .s :: ks, .string a :: xs, .string b :: ys => (eqV ks xs ys).map fun r => decide (a = b) && r
  | .b :: ks, .bool a :: xs, .bool b :: ys => (eqV ks xs ys).map fun r => (a == b) && r
  | _, _, _ => none

theorem eqC_sound : ∀ {ks : List LK} {cs ds : List C} {K : Bool → Prop}, eqC ks cs ds K → ∃ r, K r ∧ ∀ (ν : List Value) (w : World) (O : Nat → Prop) xs ys, DenL ν w O cs xs → DenL ν w O ds ys → eqV ks xs ys = some r := by
  intro ks
  induction ks with
  | nil =>
    intro cs ds K h
    cases cs <;> cases ds <;> first | exact h.elim | skip
    refine ⟨true, h, fun ν w O xs ys hx hy => ?_⟩
    simp only [DenL] at hx hy
    subst hx hy
    rfl
  | cons q ks ih =>
    intro cs ds K h
    unfold eqC at h
    split at h
    · rename_i e; cases e
    · rename_i ks0 k a cs k' b ds e
      injection e with e1 e2
      subst e1 e2
      obtain ⟨rfl, h⟩ := h
      obtain ⟨r, hr, hall⟩ := ih h
      refine ⟨_, hr, fun ν w O xs ys hx hy => ?_⟩
      simp only [DenL, Den] at hx hy
      obtain ⟨_, xs', rfl, rfl, hx⟩ := hx
      obtain ⟨_, ys', rfl, rfl, hy⟩ := hy
      simp [eqV, hall ν w O xs' ys' hx hy]
    · rename_i ks0 a cs b ds e
      injection e with e1 e2
      subst e1 e2
      obtain ⟨r, hr, hall⟩ := ih h
      refine ⟨_, hr, fun ν w O xs ys hx hy => ?_⟩
      simp only [DenL, Den] at hx hy
      obtain ⟨_, xs', rfl, rfl, hx⟩ := hx
      obtain ⟨_, ys', rfl, rfl, hy⟩ := hy
      simp [eqV, hall ν w O xs' ys' hx hy]
    · rename_i ks0 a cs b ds e
      injection e with e1 e2
      subst e1 e2
      obtain ⟨r, hr, hall⟩ := ih h
      refine ⟨_, hr, fun ν w O xs ys hx hy => ?_⟩
      simp only [DenL, Den] at hx hy
      obtain ⟨_, xs', rfl, rfl, hx⟩ := hx
      obtain ⟨_, ys', rfl, rfl, hy⟩ := hy
      simp [eqV, hall ν w O xs' ys' hx hy]
    · exact h.elim

theorem eqV_len : ∀ {ks : List LK} {xs ys : List Value} {r : Bool}, eqV ks xs ys = some r → xs.length = ks.length ∧ ys.length = ks.length := by
  intro ks
  induction ks with
  | nil =>
    intro xs ys r h
    cases xs <;> cases ys <;> simp [eqV] at h ⊢
  | cons q ks ih =>
    intro xs ys r h
    unfold eqV at h
    split at h
    · rename_i e; cases e
    · rename_i e
      injection e with e1 e2
      subst e1 e2
      split at h
      · rw [Option.map_eq_some_iff] at h
        obtain ⟨r', h, _⟩ := h
        have := ih h
        simp [this]
      · cases h
    · rename_i e
      injection e with e1 e2
      subst e1 e2
      rw [Option.map_eq_some_iff] at h
      obtain ⟨r', h, _⟩ := h
      have := ih h
      simp [this]
    · rename_i e
      injection e with e1 e2
      subst e1 e2
      rw [Option.map_eq_some_iff] at h
      obtain ⟨r', h, _⟩ := h
      have := ih h
      simp [this]
    · cases h

theorem eqV_append : ∀ {ks ls : List LK} {xs ys : List Value} {r : Bool}, eqV (ks ++ ls) xs ys = some r →
    ∃ r1 r2, eqV ks (xs.take ks.length) (ys.take ks.length) = some r1 ∧ eqV ls (xs.drop ks.length) (ys.drop ks.length) = some r2 ∧ r = (r1 && r2) := by
  intro ks
  induction ks with
  | nil => intro ls xs ys r h; exact ⟨true, r, by simp [eqV], by simpa using h, by simp⟩
  | cons q ks ih =>
    intro ls xs ys r h
    rw [List.cons_append] at h
    unfold eqV at h
    split at h
    · rename_i e; cases e
    · rename_i e
      injection e with e1 e2
      subst e1 e2
      split at h
      · rw [Option.map_eq_some_iff] at h
        obtain ⟨r', h, rfl⟩ := h
        obtain ⟨r1, r2, g1, g2, rfl⟩ := ih h
        rename_i hk
        refine ⟨_, r2, ?_, by simpa using g2, (Bool.and_assoc _ _ _).symm⟩; simp [eqV, hk, g1]
      · cases h
    · rename_i e
      injection e with e1 e2
      subst e1 e2
      rw [Option.map_eq_some_iff] at h
      obtain ⟨r', h, rfl⟩ := h
      obtain ⟨r1, r2, g1, g2, rfl⟩ := ih h
      refine ⟨_, r2, ?_, by simpa using g2, (Bool.and_assoc _ _ _).symm⟩; simp [eqV, g1]
    · rename_i e
      injection e with e1 e2
      subst e1 e2
      rw [Option.map_eq_some_iff] at h
      obtain ⟨r', h, rfl⟩ := h
      obtain ⟨r1, r2, g1, g2, rfl⟩ := ih h
      refine ⟨_, r2, ?_, by simpa using g2, (Bool.and_assoc _ _ _).symm⟩; simp [eqV, g1]
    · cases h

def asV (agg : Bool) (l : List Value) : Value := if agg then .agg l.toArray else l.headD undef

section
variable {P : Program}
theorem run_part {w : World} {t : TypeId} {d : TypeDesc} {i : TypeInfo} {X : List Value} {off : Nat} {n : Nat} (hd : P.underlying t = some d) (hi : P.info? t = some i) (hn : i.size = n) (h1 : isAggD (some d) = false → n = 1) (hl : ((X.drop off).take n).length = n) :
    (part t X.toArray off).run P w = .ok (asV (isAggD (some d)) ((X.drop off).take n)) w := by
  have hagg : (isAgg t).run P w = .ok (isAggD (some d)) w := by
    unfold isAgg; rw [Sem.run_bind, run_underlying hd w]; cases d <;> rfl
  unfold part
  rw [Sem.run_bind, hagg]
  simp only [Result.andThen_ok]
  cases hb : isAggD (some d) with
  | true =>
    simp only [if_true, Sem.run_bind, sizeOf, typeInfo, run_program, hi, Result.andThen_ok, Sem.run_pure, asV]
    congr 2
    rw [hn]
    apply Array.ext'
    simp [List.take_drop]
  | false =>
    have hn1 := h1 hb
    subst hn1
    simp only [if_false, Bool.false_eq_true, asV]
    cases hX : X.drop off with
    | nil => rw [hX] at hl; simp at hl
    | cons v r =>
      have : X[off]? = some v := by
        have := congrArg (·[0]?) hX
        simpa [List.getElem?_drop] using this
      simp [this]

def EqOK (P : Program) (D : Nat) (t : TypeId) (ks : List LK) : Prop :=
  (∃ d, P.underlying t = some d ∧ (isAggD (some d) = false → ks.length = 1) ∧ ∀ xs ys r w, eqV ks xs ys = some r → (Op.equalIn D t (asV (isAggD (some d)) xs) (asV (isAggD (some d)) ys)).run P w = .ok r w)

theorem leavesF_run {lf : TypeId → Option (List LK)} {D : Nat} (IH : ∀ t ks, lf t = some ks → EqOK P D t ks) : ∀ (fs : List Field) (off : Nat) (ks : List LK), leavesF lf P off fs = some ks →
    ∀ (X Y : List Value) (r : Bool) (w : World), eqV ks (X.drop off) (Y.drop off) = some r → (Op.eqFields D X.toArray Y.toArray fs).run P w = .ok r w
  | [], off, ks, h, X, Y, r, w, he => by
    simp only [leavesF, Option.some.injEq] at h
    subst h
    have hl := eqV_len he
    have h1 : X.drop off = [] := List.eq_nil_of_length_eq_zero hl.1
    have h2 : Y.drop off = [] := List.eq_nil_of_length_eq_zero hl.2
    rw [h1, h2] at he
    simp only [eqV, Option.some.injEq] at he
    subst he
    simp [Op.eqFields]
  | f :: fs, off, ks, h, X, Y, r, w, he => by
    simp only [leavesF] at h
    split at h
    · cases h
    · rename_i hname
      split at h
      · rename_i hoff
        split at h
        · rename_i ks1 i hk1 hi
          split at h
          · rename_i hsz
            split at h
            · rename_i rest hrest
              injection h with h
              subst h
              obtain ⟨r1, r2, g1, g2, rfl⟩ := eqV_append he
              obtain ⟨d, hd, hd1, hrun⟩ := IH _ _ hk1
              have hl := eqV_len g1
              have hX := run_part (w := w) hd hi hsz hd1 hl.1
              have hY := run_part (w := w) hd hi hsz hd1 hl.2
              have hne : f.name ≠ "_" := by simpa using hname
              rw [List.drop_drop] at g2
              rw [List.drop_drop] at g2
              have hrec := leavesF_run IH fs (off + ks1.length) rest hrest X Y r2 w g2
              unfold Op.eqFields
              rw [if_pos hne]
              simp only [Sem.run_bind, hoff, hX, hY, Result.andThen_ok, hrun _ _ _ w g1]
              cases r1 with
              | true => simpa using hrec
              | false => simp
            · cases h
          · cases h
        · cases h
      · cases h

theorem leaves_run : ∀ (d e : Nat) (t : TypeId) (ks : List LK), leaves P d t = some ks → EqOK P (d + e) t ks
  | 0, e, t, ks, h => by cases h
  | d + 1, e, t, ks, h => by
    unfold leaves at h
    have hD : d + 1 + e = (d + e) + 1 := by omega
    rw [hD]
    split at h
    · rename_i k hu
      injection h with h
      subst h
      refine ⟨_, hu, fun _ => rfl, fun xs ys r w he => ?_⟩
      unfold eqV at he
      split at he
      · rename_i e; cases e
      · rename_i ks0 k1 a xs k2 b ys e
        injection e with e1 e2
        subst e2
        split at he
        · rename_i hk
          subst hk
          have hl := eqV_len (ks := []) (r := (eqV [] xs ys).getD true) (by
            rw [Option.map_eq_some_iff] at he
            obtain ⟨r', hr', _⟩ := he
            rw [hr']; rfl)
          have h1 : xs = [] := List.eq_nil_of_length_eq_zero hl.1
          have h2 : ys = [] := List.eq_nil_of_length_eq_zero hl.2
          subst h1 h2
          simp only [eqV, Option.map_some, Option.some.injEq, Bool.and_true] at he
          subst he
          have := run_equalIn_int (P := P) w (d + e) t k1 k a b hu
          simp only [asV, isAggD, Bool.false_eq_true, if_false, List.headD_cons]
          rw [this]
          rfl
        · cases he
      · rename_i e; injection e with e1 e2; cases e1
      · rename_i e; injection e with e1 e2; cases e1
      · cases he
    · rename_i hu
      injection h with h
      subst h
      refine ⟨_, hu, fun _ => rfl, fun xs ys r w he => ?_⟩
      unfold eqV at he
      split at he
      · rename_i e; cases e
      · rename_i e; injection e with e1 e2; cases e1
      · rename_i ks0 a xs b ys e
        injection e with e1 e2
        subst e2
        rw [Option.map_eq_some_iff] at he
        obtain ⟨r', hr', rfl⟩ := he
        have hl := eqV_len hr'
        have h1 : xs = [] := List.eq_nil_of_length_eq_zero hl.1
        have h2 : ys = [] := List.eq_nil_of_length_eq_zero hl.2
        subst h1 h2
        simp only [eqV, Option.some.injEq] at hr'
        subst hr'
        have := run_equalIn_string (P := P) w (d + e) t a b hu
        simp only [asV, isAggD, Bool.false_eq_true, if_false, List.headD_cons, Bool.and_true]
        rw [this]
        congr 1
        rw [← beq_toListBytes]
        by_cases hab : a = b
        · subst hab
          simp only [decide_true]
          rw [beq_toListBytes]
          simp
        · simp only [hab, decide_false]
          rw [beq_toListBytes]
          rw [beq_eq_false_iff_ne]
          intro hh
          apply hab
          rw [ByteArray.toList_eq, ByteArray.toList_eq] at hh
          obtain ⟨⟨x⟩⟩ := a
          obtain ⟨⟨y⟩⟩ := b
          simp only at hh
          subst hh
          rfl
      · rename_i e; injection e with e1 e2; cases e1
      · cases he
    · rename_i hu
      injection h with h
      subst h
      refine ⟨_, hu, fun _ => rfl, fun xs ys r w he => ?_⟩
      unfold eqV at he
      split at he
      · rename_i e; cases e
      · rename_i e; injection e with e1 e2; cases e1
      · rename_i e; injection e with e1 e2; cases e1
      · rename_i ks0 a xs b ys e
        injection e with e1 e2
        subst e2
        rw [Option.map_eq_some_iff] at he
        obtain ⟨r', hr', rfl⟩ := he
        have hl := eqV_len hr'
        have h1 : xs = [] := List.eq_nil_of_length_eq_zero hl.1
        have h2 : ys = [] := List.eq_nil_of_length_eq_zero hl.2
        subst h1 h2
        simp only [eqV, Option.some.injEq] at hr'
        subst hr'
        have := run_equalIn_bool' (P := P) w (d + e) t a b hu
        simp only [asV, isAggD, Bool.false_eq_true, if_false, List.headD_cons, Bool.and_true]
        rw [this]
      · cases he
    · rename_i fs hu
      split at h
      · cases h
      · rename_i hst
        refine ⟨_, hu, (fun hh => by cases hh), fun xs ys r w he => ?_⟩
        have hfs : P.fieldsOf t = fs := by simp [Program.fieldsOf, hu]
        have := run_equalIn_struct (P := P) w (d + e) t xs.toArray ys.toArray (by rw [hfs]; exact hu) (by simpa using hst)
        simp only [asV, isAggD, if_true]
        rw [this, hfs]
        exact leavesF_run (fun t ks h => leaves_run d e t ks h) fs.toList 0 ks h xs ys r w (by simpa using he)
    · cases h

theorem run_aeq {w : World} {t : TypeId} {ks : List LK} {xs ys : List Value} {r : Bool} (hl : leaves P 20 t = some ks) (hs : ∃ fs, P.underlying t = some (.struct fs)) (he : eqV ks xs ys = some r) :
    (Op.equalIn 10000 t (.agg xs.toArray) (.agg ys.toArray)).run P w = .ok r w := by
  obtain ⟨fs, hs⟩ := hs
  obtain ⟨d, hd, _, h⟩ := leaves_run 20 9980 t ks hl
  rw [hs] at hd
  injection hd with hd
  subst hd
  exact h xs ys r w he

theorem run_ifc_nil {w : World} {t : TypeId} {ms : Array (String × TypeId)} (hs : P.underlying t = some (.interface ms)) {z : Value} {b : Bool} (hb : ifcV z = some b) : (Op.equal t z .nilIface).run P w = .ok b w := by
  have h : ∀ d : Nat, (Op.equalIn (d + 1) t z .nilIface).run P w = .ok b w := fun d => by
    unfold Op.equalIn
    rw [Sem.run_bind, run_underlying hs]
    unfold ifcV at hb
    split at hb
    · injection hb with hb; subst hb; rfl
    · injection hb with hb; subst hb; rfl
    · cases hb
  exact h 9999
theorem run_ifc_guard {w : World} {t : TypeId} {op : BinOp} {x : Operand} {z : Value} {b : Bool} (hb : ifcV z = some b) : (eqGuard op t x (.const .nilIface) z .nilIface).run P w = .ok () w := by
  unfold ifcV at hb
  split at hb
  · cases op <;> simp [eqGuard]
  · cases op <;> simp [eqGuard]
  · cases hb
theorem run_bin_eql {w : World} {t : TypeId} {z : Value} {b : Bool} (hb : ifcV z = some b) (h : (Op.equal t z .nilIface).run P w = .ok b w) : (binOp .eql t z .nilIface).run P w = .ok (.bool b) w := by
  unfold ifcV at hb
  split at hb
  · simp only [binOp]; simp [h]
  · simp only [binOp]; simp [h]
  · cases hb
theorem run_bin_neq {w : World} {t : TypeId} {z : Value} {b : Bool} (hb : ifcV z = some b) (h : (Op.equal t z .nilIface).run P w = .ok b w) : (binOp .neq t z .nilIface).run P w = .ok (.bool (!b)) w := by
  unfold ifcV at hb
  split at hb
  · simp only [binOp]; simp [h]
  · simp only [binOp]; simp [h]
  · cases hb
end
end Go.Proofs.YtaicmkocmnikjaaDoor.Eng
