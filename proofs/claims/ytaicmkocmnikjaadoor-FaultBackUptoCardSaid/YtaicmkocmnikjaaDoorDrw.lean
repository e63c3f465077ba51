/- Regions whose order is drawn: the general law. Each operation has an effect on what is known (a step); what is known at any time is the steps of those that have run, taken in the order of the text. -/
import Derived.Test.YtaicmkocmnikjaaDoorRun
namespace Go.Proofs.YtaicmkocmnikjaaDoor.Eng
set_option linter.all false
open Go Go.RowKit

/-- a variable that has been made and not yet been written -/
structure Pd where
  ty : TypeId
  zero : List Value

/-- what an operation changes -/
structure TR where
  w : Nat → Option C
  pk : List Nat
  rs' : Option (List Res)
  pw : Nat → Option (Option Pd)
structure SX where
  sf : Nat → C
  rs : List Res
  pend : Nat → Option Pd
def TR.step (r : TR) (x : SX) : SX := ⟨fun t => (r.w t).getD ((x.sf t).purge r.pk), r.rs'.getD x.rs, fun t => (r.pw t).getD (x.pend t)⟩

def runD (D : Nat → Bool) : List TR → Nat → SX → SX
  | [], _, x => x
  | r :: l, k, x => runD D l (k + 1) (if D k = true then r.step x else x)

structure CommP (r q : TR) : Prop where
  w : ∀ t, r.w t = none ∨ q.w t = none
  rq : ∀ t c, r.w t = some c → c.purge q.pk = c
  qr : ∀ t c, q.w t = some c → c.purge r.pk = c
  pk : r.pk = [] ∨ q.pk = []
  rs : r.rs' = none ∨ q.rs' = none
  pw : ∀ t, r.pw t = none ∨ q.pw t = none

theorem CommP.comm {r q : TR} (h : CommP r q) (x : SX) : q.step (r.step x) = r.step (q.step x) := by
  unfold TR.step
  simp only [SX.mk.injEq]
  refine ⟨funext fun t => ?_, ?_, funext fun t => ?_⟩
  · cases hr : r.w t with
    | some c =>
      rcases h.w t with h1 | h1
      · rw [hr] at h1; cases h1
      · rw [h1]; simp only [Option.getD_some, Option.getD_none]; exact h.rq t c hr
    | none =>
      cases hq : q.w t with
      | some c => simp only [Option.getD_some, Option.getD_none]; exact (h.qr t c hq).symm
      | none =>
        simp only [Option.getD_none]
        rcases h.pk with h1 | h1 <;> rw [h1] <;> rfl
  · rcases h.rs with h1 | h1 <;> rw [h1] <;> simp
  · rcases h.pw t with h1 | h1 <;> rw [h1] <;> simp

theorem runD_comm {D : Nat → Bool} {r : TR} : ∀ (l : List TR) (k : Nat) (x : SX), (∀ j q, l[j]? = some q → D (k + j) = true → CommP r q) → runD D l k (r.step x) = r.step (runD D l k x)
  | [], _, _, _ => rfl
  | q :: l, k, x, h => by
    have h0 := h 0 q rfl
    have h1 := runD_comm (D := D) (r := r) l (k + 1) (if D k = true then q.step x else x) (fun j q' hj hd => h (j + 1) q' (by simpa using hj) (by rw [show k + (j + 1) = k + 1 + j by omega]; exact hd))
    simp only [runD]
    rw [← h1]
    congr 1
    cases hd : D k with
    | true => simp only [if_true]; exact (h0 hd).comm x
    | false => rfl
theorem runD_congr {D D' : Nat → Bool} : ∀ (l : List TR) (k : Nat) (x : SX), (∀ j, j < l.length → D (k + j) = D' (k + j)) → runD D l k x = runD D' l k x
  | [], _, _, _ => rfl
  | q :: l, k, x, h => by
    simp only [runD]
    rw [show D k = D' k from h 0 (by simp)]
    exact runD_congr l (k + 1) _ fun j hj => by rw [show k + 1 + j = k + (j + 1) by omega]; exact h (j + 1) (by simp; omega)
/-- one more has run -/
theorem runD_add {D D' : Nat → Bool} {i : Nat} {r : TR} (hi : D i = false) (hi' : D' i = true) (hD : ∀ j, j ≠ i → D' j = D j) : ∀ (l : List TR) (k : Nat) (x : SX), k ≤ i → l[i - k]? = some r → (∀ j q, i < j → l[j - k]? = some q → D j = true → CommP r q) →
    runD D' l k x = r.step (runD D l k x)
  | [], k, x, hk, hr, _ => by simp at hr
  | q :: l, k, x, hk, hr, hc => by
    simp only [runD]
    by_cases hki : k = i
    · subst hki
      simp at hr
      subst hr
      rw [hi, hi']
      simp only [if_true, Bool.false_eq_true, if_false]
      rw [runD_congr (D := D') (D' := D) l (k + 1) _ (fun j _ => hD _ (by omega))]
      exact runD_comm l (k + 1) x fun j q' hj hd => hc (k + 1 + j) q' (by omega) (by rw [show k + 1 + j - k = j + 1 by omega]; simpa using hj) hd
    · rw [hD k hki]
      refine runD_add hi hi' hD l (k + 1) _ (by omega) (by rw [show i - k = i - (k + 1) + 1 by omega] at hr; simpa using hr) fun j q' hj hq hd => ?_
      exact hc j q' hj (by rw [show j - k = j - (k + 1) + 1 by omega]; simpa using hq) hd

/-! ## What is known of a temporary -/
theorem purge_cases (pk : List Nat) (c : C) : c.purge pk = c ∨ c.purge pk = .junk := by
  unfold C.purge
  split
  · exact .inl rfl
  · cases c.hasAny _ <;> simp
theorem purge_same {pk : List Nat} {c : C} (h : ∀ k ∈ pk, c.has k = false) : c.purge pk = c := by
  unfold C.purge
  split
  · rfl
  · have : ∀ (l : List Nat), (∀ k ∈ l, c.has k = false) → c.hasAny l = false := by
      intro l
      induction l with
      | nil => intro _; rfl
      | cons k l ih => intro hl; simp only [C.hasAny]; rw [hl k (by simp), ih fun k' hk' => hl k' (by simp [hk'])]; rfl
    rw [this _ h]
    rfl

/-- all that stand before a place, taken in turn -/
def allD : Nat → Bool := fun _ => true
theorem runD_append (D : Nat → Bool) : ∀ (l m : List TR) (k : Nat) (x : SX), runD D (l ++ m) k x = runD D m (k + l.length) (runD D l k x)
  | [], m, k, x => rfl
  | r :: l, m, k, x => by
    simp only [List.cons_append, runD, List.length_cons]
    rw [runD_append D l m (k + 1)]
    congr 1
    omega

/-- a temporary's value does not hang on what else has run: the ones before -/
theorem sf_pre {D : Nat → Bool} {t : Nat} (fixed : Bool) : ∀ (n : Nat) (l : List TR), l.length = n → ∀ (x : SX) (v : C), (runD allD l 0 x).sf t = v →
    (∀ (j : Nat) (r : TR), l[j]? = some r → (r.w t).isSome = true → D j = true) →
    ((fixed = true ∧ ∀ (j : Nat) (r : TR), l[j]? = some r → r.pk ≠ [] → D j = true) ∨ (v ≠ .junk ∧ ∀ (j : Nat) (r : TR), l[j]? = some r → v.purge r.pk = v)) → (runD D l 0 x).sf t = v := by
  intro n
  induction n with
  | zero =>
    intro l hl x v h _ _
    have : l = [] := List.eq_nil_of_length_eq_zero hl
    subst this
    exact h
  | succ n ih =>
    intro l hl x v h hw hp
    rcases List.eq_nil_or_concat l with h0 | ⟨l', r, h0⟩
    · subst h0; simp at hl
    have h0 : l = l' ++ [r] := by rw [h0, List.concat_eq_append]
    subst h0
    have hl' : l'.length = n := by simpa using hl
    have ih := ih l' hl'
    rw [runD_append] at h ⊢
    simp only [runD, Nat.zero_add, allD, if_true] at h ⊢
    have hlast : (l' ++ [r])[l'.length]? = some r := by simp
    have hpre : ∀ {j q}, l'[j]? = some q → (l' ++ [r])[j]? = some q := fun {j q} hq => by rw [List.getElem?_append_left (List.getElem?_eq_some_iff.1 hq).1]; exact hq
    cases hwt : r.w t with
    | some c =>
      have hd := hw _ _ hlast (by rw [hwt]; rfl)
      rw [if_pos hd]
      simp only [TR.step, hwt, Option.getD_some] at h ⊢
      exact h
    | none =>
      simp only [TR.step, hwt, Option.getD_none] at h
      rcases hp with ⟨hf, hp⟩ | ⟨hnj, hp⟩
      · have h2 := ih x _ rfl (fun j q hq hs => hw j q (hpre hq) hs) (.inl ⟨hf, fun j q hq hne => hp j q (hpre hq) hne⟩)
        by_cases hd : D l'.length = true
        · rw [if_pos hd]
          simp only [TR.step, hwt, Option.getD_none]
          rw [h2]; exact h
        · rw [if_neg hd, h2]
          have : r.pk = [] := by
            cases hpk : r.pk with
            | nil => rfl
            | cons a b => exact absurd (hp _ _ hlast (by rw [hpk]; simp)) hd
          rw [this] at h
          exact h
      · have h1 : (runD (fun _ => true) l' 0 x).sf t = v := by
          rcases purge_cases r.pk ((runD (fun _ => true) l' 0 x).sf t) with h' | h'
          · rw [← h']; exact h
          · exfalso; apply hnj; rw [← h]; exact h'
        have h2 := ih x v h1 (fun j q hq hs => hw j q (hpre hq) hs) (.inr ⟨hnj, fun j q hq => hp j q (hpre hq)⟩)
        by_cases hd : D l'.length = true
        · rw [if_pos hd]
          simp only [TR.step, hwt, Option.getD_none]
          rw [h2]; exact hp _ _ hlast
        · rw [if_neg hd]; exact h2
/-- .. and the ones behind -/
theorem sf_post {D : Nat → Bool} {t : Nat} {v : C} : ∀ (l : List TR) (k : Nat) (x : SX), x.sf t = v → (∀ j r, l[j]? = some r → D (k + j) = true → r.w t = none ∧ v.purge r.pk = v) → (runD D l k x).sf t = v
  | [], _, _, h, _ => h
  | r :: l, k, x, h, hp => by
    simp only [runD]
    refine sf_post l (k + 1) _ ?_ fun j q hq hd => hp (j + 1) q (by simpa using hq) (by rw [show k + (j + 1) = k + 1 + j by omega]; exact hd)
    by_cases hd : D k = true
    · rw [if_pos hd]
      obtain ⟨h1, h2⟩ := hp 0 r rfl hd
      simp only [TR.step, h1, Option.getD_none]
      rw [h]; exact h2
    · rw [if_neg hd]; exact h
theorem rs_pre {D : Nat → Bool} : ∀ (l : List TR) (k : Nat) (x : SX), (∀ j r, l[j]? = some r → r.rs' ≠ none → D (k + j) = true) → (runD D l k x).rs = (runD allD l k x).rs
  | [], _, _, _ => rfl
  | r :: l, k, x, h => by
    have gen : ∀ (l : List TR) (k : Nat) (x y : SX), x.rs = y.rs → (∀ j r, l[j]? = some r → r.rs' ≠ none → D (k + j) = true) → (runD D l k x).rs = (runD allD l k y).rs := by
      intro l
      induction l with
      | nil => intro k x y h _; exact h
      | cons r l ih =>
        intro k x y h hh
        simp only [runD, allD, if_true]
        refine ih (k + 1) _ _ ?_ fun j q hq hne => by rw [show k + 1 + j = k + (j + 1) by omega]; exact hh (j + 1) q (by simpa using hq) hne
        cases hr : r.rs' with
        | none => split <;> simp [TR.step, hr, h]
        | some q => have hd := hh 0 r rfl (by rw [hr]; simp); rw [Nat.add_zero] at hd; rw [if_pos hd]; simp [TR.step, hr]
    exact gen (r :: l) k x x rfl h
theorem rs_post {D : Nat → Bool} : ∀ (l : List TR) (k : Nat) (x : SX), (∀ j r, l[j]? = some r → D (k + j) = true → r.rs' = none) → (runD D l k x).rs = x.rs
  | [], _, _, _ => rfl
  | r :: l, k, x, h => by
    simp only [runD]
    rw [rs_post l (k + 1) _ fun j q hq hd => h (j + 1) q (by simpa using hq) (by rw [show k + (j + 1) = k + 1 + j by omega]; exact hd)]
    by_cases hd : D k = true
    · rw [if_pos hd]
      have := h 0 r rfl hd
      simp [TR.step, this]
    · rw [if_neg hd]
theorem rs_all {D : Nat → Bool} {Pr : List Res → Prop} : ∀ (l : List TR) (k : Nat) (x : SX), Pr x.rs → (∀ r ∈ l, ∀ q, r.rs' = some q → Pr q) → Pr (runD D l k x).rs
  | [], _, _, h, _ => h
  | r :: l, k, x, h, hh => by
    simp only [runD]
    refine rs_all l (k + 1) _ ?_ fun q hq => hh q (by simp [hq])
    split
    · cases hr : r.rs' with
      | none => simpa [TR.step, hr] using h
      | some q => simpa [TR.step, hr] using hh r (by simp) q hr
    · exact h
theorem pend_pre {D : Nat → Bool} {t : Nat} : ∀ (l : List TR) (k : Nat) (x y : SX), x.pend t = y.pend t → (∀ j r, l[j]? = some r → r.pw t ≠ none → D (k + j) = true) → (runD D l k x).pend t = (runD allD l k y).pend t
  | [], _, _, _, h, _ => h
  | r :: l, k, x, y, h, hh => by
    simp only [runD, allD, if_true]
    refine pend_pre l (k + 1) _ _ ?_ fun j q hq hne => by rw [show k + 1 + j = k + (j + 1) by omega]; exact hh (j + 1) q (by simpa using hq) hne
    cases hr : r.pw t with
    | none => split <;> simp [TR.step, hr, h]
    | some q => have hd := hh 0 r rfl (by rw [hr]; simp); rw [Nat.add_zero] at hd; rw [if_pos hd]; simp [TR.step, hr]
theorem pend_post {D : Nat → Bool} {t : Nat} : ∀ (l : List TR) (k : Nat) (x : SX), (∀ j r, l[j]? = some r → D (k + j) = true → r.pw t = none) → (runD D l k x).pend t = x.pend t
  | [], _, _, _ => rfl
  | r :: l, k, x, h => by
    simp only [runD]
    rw [pend_post l (k + 1) _ fun j q hq hd => h (j + 1) q (by simpa using hq) (by rw [show k + (j + 1) = k + 1 + j by omega]; exact hd)]
    by_cases hd : D k = true
    · rw [if_pos hd]
      have := h 0 r rfl hd
      simp [TR.step, this]
    · rw [if_neg hd]

/-! ## Any order -/
section
variable {P : Program} {ops : Array Oper} {Q : Exit → Act → World → Prop} {Inv : SX → Act → World → Prop} {tr : List TR} {x0 : SX}

def closedD (ops : Array Oper) (D : Nat → Bool) : Prop := ∀ i o, ops[i]? = some o → D i = true → ∀ e ∈ o.after, Region.binds .any e = true → D e.on = true

theorem ready_of_min {listed : Array Bool} {i : Nat} (hs : listed.size = ops.size) (hi : i < ops.size) (hun : listed.getD i false = false) (hmin : ∀ j, j < i → listed.getD j false = true)
    (hb : ∀ i o, ops[i]? = some o → ∀ e ∈ o.after, Region.binds .any e = true → e.on < i) : i ∈ Region.ready .any ops listed := by
  have ho : ops[i]? = some ops[i] := by simp [hi]
  refine mem_ready.2 ⟨?_, ops[i], ho, fun e he hbi => hmin _ (hb i _ ho e he hbi)⟩
  have : i < listed.size := by omega
  simp [this] at hun ⊢
  exact hun

theorem drawn_wp (hlen : tr.length = ops.size) (hb : ∀ i o, ops[i]? = some o → ∀ e ∈ o.after, Region.binds .any e = true → e.on < i) (bef : Nat → Nat → Prop)
    (hbef : ∀ D, closedD ops D → ∀ i j, bef i j → D j = true → D i = true)
    (hready : ∀ D i o, closedD ops D → ops[i]? = some o → (∀ e ∈ o.after, Region.binds .any e = true → D e.on = true) → ∀ j, bef j i → D j = true)
    (hcomm : ∀ i j r q, i < j → tr[i]? = some r → tr[j]? = some q → ¬ bef i j → CommP r q)
    (hsem : ∀ i o r D, ops[i]? = some o → tr[i]? = some r → closedD ops D → D i = false → (∀ j, bef j i → D j = true) → ∀ (K : Act → World → Prop) a w, Inv (runD D tr 0 x0) a w → (∀ a' w', Inv (r.step (runD D tr 0 x0)) a' w' → K a' w') → wpOp P ops Q i K a w)
    (hend : ∀ a w, Inv (runD allD tr 0 x0) a w → Q .normal a w) :
    ∀ (fuel : Nat) (listed : Array Bool) (a : Act) (w : World), listed.size = ops.size → listed.toList.count false = fuel → closedD ops (fun j => listed.getD j false) → Inv (runD (fun j => listed.getD j false) tr 0 x0) a w →
      wpAny P .any ops Q fuel listed a w := by
  have all_of : ∀ (listed : Array Bool), listed.size = ops.size → listed.toList.count false = 0 → ∀ j, j < ops.size → listed.getD j false = true := by
    intro listed hs hc j hj
    have hjl : j < listed.size := by omega
    have hne : listed[j] ≠ false := fun e => by
      have : false ∈ listed.toList := by rw [← e]; simp
      exact absurd (List.count_pos_iff.2 this) (by omega)
    simp [hjl]
    cases hv : listed[j] with | true => rfl | false => exact absurd hv hne
  have fin : ∀ (listed : Array Bool) (a : Act) (w : World), listed.size = ops.size → listed.toList.count false = 0 → Inv (runD (fun j => listed.getD j false) tr 0 x0) a w → Q .normal a w := by
    intro listed a w hs hc hI
    refine hend a w ?_
    rwa [runD_congr (D := fun j => listed.getD j false) (D' := allD) tr 0 x0 (fun j hj => by simp only [Nat.zero_add, allD]; exact all_of listed hs hc j (by omega))] at hI
  intro fuel
  induction fuel with
  | zero =>
    intro listed a w hs hc hcl hI
    refine ⟨?_, fin listed a w hs hc hI⟩
    apply List.eq_nil_iff_forall_not_mem.2
    intro i hi
    obtain ⟨hun, o, ho, _⟩ := mem_ready.1 hi
    have hilt : i < ops.size := (Array.getElem?_eq_some_iff.1 ho).1
    have := all_of listed hs hc i hilt
    have hil : i < listed.size := by omega
    simp [hil] at this hun
    rw [this] at hun
    cases hun
  | succ fuel ih =>
    intro listed a w hs hc hcl hI
    refine ⟨fun hnil => ?_, fun i hi => ?_⟩
    · exfalso
      have hmem : false ∈ listed.toList := List.count_pos_iff.1 (by omega)
      have hex : ∃ i, i < ops.size ∧ listed.getD i false = false := by
        obtain ⟨i, hi, he⟩ := List.getElem_of_mem hmem
        refine ⟨i, by simpa [← hs] using hi, ?_⟩
        have : i < listed.size := by simpa using hi
        simp [this]
        simpa using he
      obtain ⟨i, hi, hmin⟩ : ∃ i, (i < ops.size ∧ listed.getD i false = false) ∧ ∀ j, j < i → ¬ (j < ops.size ∧ listed.getD j false = false) := by
        obtain ⟨i0, h0⟩ := hex
        induction i0 using Nat.strongRecOn with
        | _ i0 ih2 =>
          by_cases h : ∃ j, j < i0 ∧ (j < ops.size ∧ listed.getD j false = false)
          · obtain ⟨j, hj, hj'⟩ := h
            exact ih2 j hj hj'
          · exact ⟨i0, h0, fun j hj hj' => h ⟨j, hj, hj'⟩⟩
      have hr := ready_of_min hs hi.1 hi.2 (fun j hj => by
        cases hg : listed.getD j false with
        | true => rfl
        | false => exact absurd ⟨by omega, hg⟩ (hmin j hj)) hb
      rw [hnil] at hr
      cases hr
    · obtain ⟨hun, o, ho, hall⟩ := mem_ready.1 hi
      have hilt : i < ops.size := (Array.getElem?_eq_some_iff.1 ho).1
      have hil : i < listed.size := by omega
      have hunf : listed.getD i false = false := by simp [hil] at hun ⊢; exact hun
      obtain ⟨r, hr⟩ : ∃ r, tr[i]? = some r := ⟨tr[i], by simp [hlen, hilt]⟩
      have hbi := hready _ i o hcl ho (fun e he hb' => hall e he hb')
      refine hsem i o r _ ho hr hcl hunf hbi _ a w hI fun a' w' hI' => ?_
      have hgi : (listed.setIfInBounds i true).getD i false = true := by simp [hil]
      have hgj : ∀ j, j ≠ i → (listed.setIfInBounds i true).getD j false = listed.getD j false := fun j hne => getD_set_ne false (Ne.symm hne)
      refine ih (listed.setIfInBounds i true) a' w' (by simpa using hs) ?_ ?_ ?_
      · have : listed.toList.count false = (listed.setIfInBounds i true).toList.count false + 1 := by
          rw [Array.toList_setIfInBounds]
          have hli : i < listed.toList.length := by simpa using hil
          have he : listed.toList[i] = false := by simp [hil] at hunf; simpa using hunf
          have h1 := List.count_set (l := listed.toList) (a := true) (b := false) hli
          rw [he] at h1
          have hpos : 0 < listed.toList.count false := List.count_pos_iff.2 (by rw [← he]; exact List.getElem_mem hli)
          rw [show (false == false) = true from rfl, show (true == false) = false from rfl] at h1
          simp only [if_true, Bool.false_eq_true, if_false] at h1
          omega
        omega
      · intro j oj hj hdj e he hbe
        by_cases hji : j = i
        · subst hji
          rw [ho] at hj
          injection hj with hj
          subst hj
          by_cases hei : e.on = j
          · rw [hei]; exact hgi
          · show (listed.setIfInBounds j true).getD e.on false = true
            rw [hgj _ hei]; exact hall e he hbe
        · have hdj' : listed.getD j false = true := by rw [← hgj j hji]; exact hdj
          by_cases hei : e.on = i
          · rw [hei]; exact hgi
          · show (listed.setIfInBounds i true).getD e.on false = true
            rw [hgj _ hei]; exact hcl j oj hj hdj' e he hbe
      · rw [runD_add (D := fun j => listed.getD j false) (D' := fun j => (listed.setIfInBounds i true).getD j false) (r := r) hunf hgi hgj tr 0 x0 (Nat.zero_le _) (by simpa using hr) (fun j q hij hq hd => hcomm i j r q hij hr (by simpa using hq) fun hbij => ?_)]
        · exact hI'
        · have := hbef _ hcl i j hbij hd
          rw [hunf] at this
          cases this
end
end Go.Proofs.YtaicmkocmnikjaaDoor.Eng
