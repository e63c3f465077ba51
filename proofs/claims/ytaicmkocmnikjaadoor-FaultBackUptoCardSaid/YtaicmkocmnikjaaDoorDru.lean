/- Regions whose order is drawn: all of it put together. -/
import Derived.Test.YtaicmkocmnikjaaDoorDrt
namespace Go.Proofs.YtaicmkocmnikjaaDoor.Eng
set_option linter.all false
open Go Go.RowKit

def FactOK (E : Ctx) (hid : List Res) (ops : Array Oper) (FV : List C) (PK : List Nat) (o : Oper) (t : DT) (r : TR) (x : SX) : Prop :=
  match t with
  | .q => (∃ s, r = trQ o.dst s) ∧ ∀ y, agree ops o x y → y.rs = x.rs → Sem E ops o r y
  | .f => (∃ s, r = trQ o.dst s ∧ s ∈ FV) ∧ (∀ t ∈ o.looksAt ops, x.sf t ≠ .junk ∧ x.sf t ∈ FV) ∧ ∀ y, agree ops o x y → subR hid y.rs → Sem E ops o r y
  | .a => (∃ ta pd, o.dst = some ta ∧ r = trA ta pd) ∧ ∀ y, Sem E ops o r y
  | .e none => (∃ s rs' pk, r = trE o.dst s rs' pk none ∧ (∀ k ∈ pk, k ∈ PK) ∧ subR hid rs') ∧ ∀ y, agree ops o x y → y.rs = x.rs → Sem E ops o r y
  | .e (some ta) => (∃ s rs' pk c, r = trE o.dst s rs' pk (some (ta, c)) ∧ (∀ k ∈ pk, k ∈ PK) ∧ subR hid rs') ∧ ∀ y, agree ops o x y → y.rs = x.rs → y.pend ta = x.pend ta → Sem E ops o r y

def FactsR (E : Ctx) (hid : List Res) (ops : Array Oper) (FV : List C) (PK : List Nat) : List Oper → List DT → List TR → SX → Prop
  | [], [], [], _ => True
  | o :: os, t :: ts, r :: rs, x => FactOK E hid ops FV PK o t r x ∧ FactsR E hid ops FV PK os ts rs (r.step x)
  | _, _, _, _ => False

theorem FactsR.get {E : Ctx} {hid : List Res} {ops : Array Oper} {FV : List C} {PK : List Nat} : ∀ {os : List Oper} {ts : List DT} {rs : List TR} {x : SX}, FactsR E hid ops FV PK os ts rs x → os.length = rs.length ∧ ts.length = rs.length ∧
    ∀ (i : Nat) (o : Oper) (t : DT) (r : TR), os[i]? = some o → ts[i]? = some t → rs[i]? = some r → FactOK E hid ops FV PK o t r (runD allD (rs.take i) 0 x)
  | [], [], [], x, _ => ⟨rfl, rfl, by simp⟩
  | [], [], _ :: _, x, h => h.elim
  | [], _ :: _, _, x, h => h.elim
  | _ :: _, [], _, x, h => h.elim
  | _ :: _, _ :: _, [], x, h => h.elim
  | o :: os, t :: ts, r :: rs, x, h => by
    obtain ⟨h1, h2⟩ := h
    obtain ⟨k1, k2, k3⟩ := FactsR.get h2
    refine ⟨by simp [k1], by simp [k2], fun i o' t' r' ho ht hr => ?_⟩
    cases i with
    | zero => simp at ho ht hr; subst ho ht hr; simpa [runD] using h1
    | succ i =>
      have := k3 i o' t' r' (by simpa using ho) (by simpa using ht) (by simpa using hr)
      have e : ∀ (l : List TR) (k k' : Nat) (y : SX), runD allD l k y = runD allD l k' y := by
        intro l
        induction l with
        | nil => intro k k' y; rfl
        | cons q l ih => intro k k' y; simp only [runD, allD, if_true]; exact ih _ _ _
      simp only [List.take_succ_cons, runD, allD, if_true]
      rw [e _ (0 + 1) 0]
      exact this

def XD (x : DS) : SX := ⟨slot x.fr, x.rs, fun t => findP t x.pend⟩

theorem findP_rm (ta t : Nat) : ∀ (l : List (Nat × Pd)), findP t (rmP ta l) = if t = ta then none else findP t l
  | [] => by simp [rmP, findP]
  | (s, p) :: l => by
    simp only [rmP]
    by_cases e : s = ta
    · subst e
      simp only [beq_self_eq_true, cond_true]
      rw [findP_rm s t l]
      by_cases e' : t = s
      · simp [e']
      · have : (s == t) = false := by simpa using Ne.symm e'
        simp [e', findP, this]
    · have : (s == ta) = false := by simpa using e
      simp only [this, cond_false, findP]
      rw [findP_rm ta t l]
      by_cases e' : s = t
      · subst e'
        simp [e]
      · have : (s == t) = false := by simpa using e'
        simp [this]

theorem step_trE (d : Option Nat) (s : C) (rs' : List Res) (pk : List Nat) (y : SX) : (trE d s rs' pk none).step y = ⟨sput (fun t => (y.sf t).purge pk) d s, rs', y.pend⟩ := by
  unfold trE TR.step
  simp only [Option.getD_some, Option.getD_none, SX.mk.injEq, and_true]
  funext t
  simp only [sput]
  split <;> rfl
theorem step_trEa (d : Option Nat) (s : C) (rs' : List Res) (pk : List Nat) (ta : Nat) (c : C) (y : SX) :
    (trE d s rs' pk (some (ta, c))).step y = ⟨sput (fun t => (sput y.sf (some ta) c t).purge pk) d s, rs', fun t => if t = ta then none else y.pend t⟩ := by
  unfold trE TR.step
  simp only [Option.getD_some, SX.mk.injEq, true_and]
  refine ⟨funext fun t => ?_, funext fun t => ?_⟩
  · simp only [sput, Option.some.injEq]
    split
    · rfl
    · by_cases e : t = ta
      · rw [if_pos e, if_pos e.symm]; rfl
      · rw [if_neg e, if_neg (fun h => e h.symm)]; rfl
  · split <;> rfl

theorem noRef_spec {pk : List Nat} : ∀ {l : List C}, noRef pk l = true → ∀ c ∈ l, ∀ k ∈ pk, c.has k = false
  | [], _, c, hc => by cases hc
  | c0 :: l, h, c, hc => by
    simp only [noRef, Bool.and_eq_true, Bool.not_eq_true'] at h
    cases List.mem_cons.1 hc with
    | inl e => subst e; exact hasAny_false h.1
    | inr e => exact noRef_spec h.2 c e
theorem njL_spec : ∀ {l : List C}, njL l = true → ∀ c ∈ l, c ≠ .junk
  | [], _, c, hc => by cases hc
  | c0 :: l, h, c, hc => by
    simp only [njL, Bool.and_eq_true] at h
    cases List.mem_cons.1 hc with
    | inl e => subst e; intro e2; subst e2; exact absurd h.1 (by simp [C.nj])
    | inr e => exact njL_spec h.2 c e

section
variable {E : Ctx} {ops : Array Oper} {hid : List Res} {N : Nat} {K : St → Prop}

theorem looks_opsV {o : Oper} {ioo : IOper} {fr : List (Nat × C)} (hc : compOper E.P N ops o = some ioo) {t : Nat} (ht : t ∈ o.looksAt ops) : slot fr t ∈ opsV fr ioo := by
  obtain ⟨hd, his, hdst, hg⟩ := compOper_spec hc
  unfold Oper.looksAt at ht
  unfold opsV
  rcases List.mem_append.1 ht with h | h
  · obtain ⟨x, hx, he⟩ := List.mem_filterMap.1 h
    cases x <;> simp at he
    subst he
    exact List.mem_append_left _ (List.mem_map.2 ⟨.tmp _, (is_uses his).2 _ hx, rfl⟩)
  · refine List.mem_append_right _ ?_
    rcases hg with ⟨hg1, hg2⟩ | ⟨j, s, want, hg1, hg2, hs⟩
    · rw [hg1] at h; cases h
    · rw [hg1] at h
      rw [hg2]
      simp [hs] at h
      subst h
      simp

theorem facts (hN : E.N = N) : ∀ (ol : List Oper) (ts : List DT) (il : List IOper) (x : DS), compOps E.P N ops ol = some il → evD E hid ts il x K → (∀ (i : Nat) (o : Oper) (t : DT), ol[i]? = some o → ts[i]? = some t → t.isE = true ∨ t.isA = true → o.guard = none) →
    ∃ tr FV PK st', FactsR E hid ops FV PK ol ts tr (XD x) ∧ (∀ c ∈ x.fv, c ∈ FV) ∧ (∀ k ∈ x.pk, k ∈ PK) ∧ noRef PK FV = true ∧ K st' ∧ runD allD tr 0 (XD x) = ⟨slot st'.fr, st'.rs, fun _ => none⟩
  | [], ts, il, x, hc, h, _ => by
    simp only [compOps, Option.some.injEq] at hc
    subst hc
    cases ts with
    | cons t ts => exact h.elim
    | nil =>
      obtain ⟨h1, h2, h3⟩ := h
      refine ⟨[], x.fv, x.pk, ⟨x.fr, x.rs⟩, trivial, fun c hc => hc, fun k hk => hk, h2, h3, ?_⟩
      simp only [runD, XD, h1]
      rfl
  | o :: ol, ts, il, x, hc, h, hgd => by
    simp only [compOps] at hc
    split at hc
    · rename_i io ir hio hir
      injection hc with hc
      subst hc
      cases ts with
      | nil => exact h.elim
      | cons t ts =>
        have hgd0 := hgd 0 o t rfl rfl
        have hgd' : ∀ (i : Nat) (o : Oper) (t : DT), ol[i]? = some o → ts[i]? = some t → t.isE = true ∨ t.isA = true → o.guard = none := fun i o' t' ho ht => hgd (i + 1) o' t' (by simpa using ho) (by simpa using ht)
        obtain ⟨hd, his, hdst, hg⟩ := compOper_spec hio
        rw [← hN] at hd
        have cont : ∀ (x' : DS) (r : TR), r.step (XD x) = XD x' → evD E hid ts ir x' K → (∀ FV PK, (∀ c ∈ x'.fv, c ∈ FV) → (∀ k ∈ x'.pk, k ∈ PK) → FactOK E hid ops FV PK o t r (XD x)) → (∀ c ∈ x.fv, c ∈ x'.fv) → (∀ k ∈ x.pk, k ∈ x'.pk) →
            ∃ tr FV PK st', FactsR E hid ops FV PK (o :: ol) (t :: ts) tr (XD x) ∧ (∀ c ∈ x.fv, c ∈ FV) ∧ (∀ k ∈ x.pk, k ∈ PK) ∧ noRef PK FV = true ∧ K st' ∧ runD allD tr 0 (XD x) = ⟨slot st'.fr, st'.rs, fun _ => none⟩ := by
          intro x' r hx hev hf hfv hpk
          obtain ⟨tr, FV, PK, st', h1, h2, h3, h4, h5, h6⟩ := facts hN ol ts ir x' hir hev hgd'
          refine ⟨r :: tr, FV, PK, st', ⟨hf FV PK h2 h3, by rw [hx]; exact h1⟩, fun c hc => h2 c (hfv c hc), fun k hk => h3 k (hpk k hk), h4, h5, ?_⟩
          have e : ∀ (l : List TR) (k k' : Nat) (y : SX), runD allD l k y = runD allD l k' y := by
            intro l
            induction l with
            | nil => intro k k' y; rfl
            | cons q l ih => intro k k' y; simp only [runD, allD, if_true]; exact ih _ _ _
          simp only [runD, allD, if_true, hx]
          rw [e _ (0 + 1) 0]
          exact h6
        simp only [evD] at h
        cases t with
        | q =>
          obtain ⟨s, hk, hsem⟩ := semQ hN hio h
          rw [hdst] at hk
          refine cont { x with fr := putFr x.fr o.dst s } (trQ o.dst s) ?_ hk (fun FV PK _ _ => ⟨⟨s, rfl⟩, fun y ha hr => hsem y ha hr⟩) (fun c hc => hc) (fun k hk => hk)
          rw [step_trQ]
          simp only [XD, slot_putFr]
        | f =>
          obtain ⟨hnj, h⟩ := h
          obtain ⟨s, hk, hsem⟩ := semF hN hio h
          rw [hdst] at hk
          refine cont { x with fr := putFr x.fr o.dst s, fv := s :: (opsV x.fr io ++ x.fv) } (trQ o.dst s) ?_ hk (fun FV PK hfv _ => ⟨⟨s, rfl, hfv s (by simp)⟩, fun t ht => ⟨njL_spec hnj _ (looks_opsV hio ht), hfv _ (List.mem_cons_of_mem _ (List.mem_append_left _ (looks_opsV hio ht)))⟩, fun y ha hr => hsem y ha hr⟩) (fun c hc => by simp [hc]) (fun k hk => hk)
          rw [step_trQ]
          simp only [XD, slot_putFr]
        | a =>
          simp only [ev1d] at h
          split at h
          · rename_i t0 zero ta hop hdd
            obtain ⟨hz, hk⟩ := h
            rw [hdst] at hdd
            have hgn := hgd0 (.inr rfl)
            refine cont { x with fr := putFr x.fr (some ta) .junk, pend := (ta, ⟨t0, zero⟩) :: x.pend } (trA ta ⟨t0, zero⟩) ?_ hk (fun FV PK _ _ => ⟨⟨ta, _, hdd, rfl⟩, fun y => semA hN hio hgn hop hdd hz y⟩) (fun c hc => hc) (fun k hk => hk)
            unfold trA TR.step
            simp only [XD, slot_putFr, Option.getD_none, SX.mk.injEq, true_and]
            refine ⟨funext fun s => ?_, funext fun s => ?_⟩
            · simp only [sput, Option.some.injEq]
              by_cases e : s = ta
              · rw [if_pos e, if_pos e.symm]; rfl
              · rw [if_neg e, if_neg (fun h => e h.symm)]; rfl
            · simp only [findP]
              by_cases e : s = ta
              · subst e; simp
              · have : (ta == s) = false := by simpa using Ne.symm e
                simp [e, this]
          · exact h.elim
        | e ad =>
          have hgn := hgd0 (.inl rfl)
          cases ad with
          | none =>
            simp only [ev1d] at h
            obtain ⟨s, rs', pk, hk, hsem⟩ := semE (ops := ops) hd his hgn h
            rw [hdst] at hk
            obtain ⟨hsub, hpko, hk⟩ := hk
            have hst : (trE o.dst s rs' pk none).step (XD x) = XD ⟨putFr (purgeFr pk x.fr) o.dst s, rs', x.pend, x.fv, pk ++ x.pk⟩ := by
              rw [step_trE]
              simp only [XD, slot_putFr]
              rw [show slot (purgeFr pk x.fr) = fun t => (slot x.fr t).purge pk from funext fun t => slot_purge pk t x.fr]
            refine cont _ (trE o.dst s rs' pk none) hst hk (fun FV PK _ hpk => ⟨⟨s, rs', pk, rfl, fun k hk => hpk k (by simp [hk]), hsub⟩, fun y ha hr hn K' Q a w hI hK' => ?_⟩) (fun c hc => hc) (fun k hk => by simp [hk])
            obtain ⟨ν, B, hG, hP⟩ := hI
            refine hsem y ν B K' Q a w hpko ha hr hn hG hP fun a' w' hI' => hK' a' w' ?_
            rw [step_trE]
            exact hI'
          | some ta =>
            simp only [ev1d] at h
            split at h
            · rename_i p hfp
              obtain ⟨s, rs', pk, hk, hsem⟩ := semE (ops := ops) (fr := (ta, C.bp x.rs.length 0) :: x.fr) hd his hgn h
              rw [hdst] at hk
              obtain ⟨hsub, hpko, hk⟩ := hk
              have hsl : slot ((ta, C.bp x.rs.length 0) :: x.fr) = sput (slot x.fr) (some ta) (.bp x.rs.length 0) := by rw [← slot_putFr]; rfl
              have hst : (trE o.dst s rs' pk (some (ta, .bp x.rs.length 0))).step (XD x) = XD ⟨putFr (purgeFr pk ((ta, .bp x.rs.length 0) :: x.fr)) o.dst s, rs', rmP ta x.pend, x.fv, pk ++ x.pk⟩ := by
                rw [step_trEa]
                simp only [XD, slot_putFr]
                rw [show slot (purgeFr pk ((ta, C.bp x.rs.length 0) :: x.fr)) = fun t => (sput (slot x.fr) (some ta) (.bp x.rs.length 0) t).purge pk from funext fun t => by rw [slot_purge, hsl]]
                rw [show (fun t => findP t (rmP ta x.pend)) = fun t => if t = ta then none else findP t x.pend from funext fun t => findP_rm ta t _]
              refine cont _ (trE o.dst s rs' pk (some (ta, .bp x.rs.length 0))) hst hk (fun FV PK _ hpk => ⟨⟨s, rs', pk, _, rfl, fun k hk => hpk k (by simp [hk]), hsub⟩, fun y ha hr hpe hn K' Q a w hI hK' => ?_⟩) (fun c hc => hc) (fun k hk => by simp [hk])
              obtain ⟨ν, B, hG, hP⟩ := hI
              have hyp : y.pend ta = some p := by rw [hpe]; exact hfp
              obtain ⟨hG2, hP2⟩ := adopt hyp hG hP
              refine hsem ⟨sput y.sf (some ta) (.bp y.rs.length 0), y.rs ++ [.box p.ty (p.zero.map .v)], fun t => if t = ta then none else y.pend t⟩ _ B K' Q a w hpko (fun t ht => ?_) (by simp only [hr, XD]) (fun t q hq => ?_) hG2 hP2 fun a' w' hI' => hK' a' w' ?_
              · rw [hsl]
                simp only [sput, hr, XD]
                split
                · rfl
                · exact ha t ht
              · simp only at hq
                split at hq
                · cases hq
                · exact hn t q hq
              · rw [step_trEa, show C.bp x.rs.length 0 = .bp y.rs.length 0 by rw [hr]; rfl]
                exact hI'
            · exact h.elim
    · cases hc
end

/-! ## The check -/
theorem maskOf_spec {acc : List Nat} {i : Nat} : ∀ {es : List Edge}, (maskOf acc es).testBit i = true → ∃ e ∈ es, Region.binds .any e = true ∧ (e.on = i ∨ (acc.getD e.on 0).testBit i = true)
  | [], h => by simp [maskOf] at h
  | e :: es, h => by
    simp only [maskOf] at h
    split at h
    · rename_i hb
      simp only [Nat.testBit_or, Bool.or_eq_true] at h
      rcases h with (h | h) | h
      · refine ⟨e, by simp, hb, .inl ?_⟩
        rw [Nat.testBit_two_pow] at h
        simpa using h
      · exact ⟨e, by simp, hb, .inr h⟩
      · obtain ⟨e', h1, h2⟩ := maskOf_spec h
        exact ⟨e', by simp [h1], h2⟩
    · obtain ⟨e', h1, h2⟩ := maskOf_spec h
      exact ⟨e', by simp [h1], h2⟩
theorem befL_get : ∀ (l : List Oper) (acc : List Nat), (∀ k, k < acc.length → (befL l acc)[k]? = acc[k]?) ∧ ∀ (j : Nat) (o : Oper), l[j]? = some o → ∃ pre : List Nat, pre.length = acc.length + j ∧ (∀ k, k < pre.length → (befL l acc)[k]? = pre[k]?) ∧ (befL l acc)[acc.length + j]? = some (maskOf pre o.after.toList)
  | [], acc => ⟨fun k _ => rfl, by simp⟩
  | o :: l, acc => by
    obtain ⟨h1, h2⟩ := befL_get l (acc ++ [maskOf acc o.after.toList])
    simp only [List.length_append, List.length_cons, List.length_nil] at h1 h2
    refine ⟨fun k hk => ?_, fun j o' hj => ?_⟩
    · simp only [befL]
      rw [h1 k (by omega), List.getElem?_append_left hk]
    · cases j with
      | zero =>
        simp at hj
        subst hj
        refine ⟨acc, rfl, fun k hk => ?_, ?_⟩
        · simp only [befL]
          rw [h1 k (by omega), List.getElem?_append_left hk]
        · simp only [befL, Nat.add_zero]
          rw [h1 _ (by omega)]
          simp
      | succ j =>
        obtain ⟨pre, p1, p2, p3⟩ := h2 j o' (by simpa using hj)
        refine ⟨pre, by omega, p2, ?_⟩
        simp only [befL]
        rw [show acc.length + (j + 1) = acc.length + 1 + j by omega]
        exact p3

def bef (ops : Array Oper) (i j : Nat) : Prop := ∃ m, (befL ops.toList [])[j]? = some m ∧ m.testBit i = true
theorem bef_step {ops : Array Oper} {i j : Nat} {o : Oper} (ho : ops[j]? = some o) (h : bef ops i j) : ∃ e ∈ o.after, Region.binds .any e = true ∧ (e.on = i ∨ (e.on < j ∧ bef ops i e.on)) := by
  obtain ⟨m, hm, hb⟩ := h
  obtain ⟨pre, p1, p2, p3⟩ := (befL_get ops.toList []).2 j o (by simpa using ho)
  simp only [List.length_nil, Nat.zero_add] at p1 p3
  rw [p3] at hm
  injection hm with hm
  subst hm
  obtain ⟨e, he, hbi, hc⟩ := maskOf_spec hb
  refine ⟨e, by simpa using he, hbi, ?_⟩
  rcases hc with hc | hc
  · exact .inl hc
  · right
    rcases Nat.lt_or_ge e.on j with hlt | hge
    · have hl : e.on < pre.length := by omega
      refine ⟨hlt, pre[e.on], by rw [p2 _ hl]; simp [hl], ?_⟩
      simpa [hl] using hc
    · rw [List.getD_eq_getElem?_getD, List.getElem?_eq_none (by omega)] at hc
      simp at hc
theorem bef_ready {ops : Array Oper} {D : Nat → Bool} (hcl : closedD ops D) : ∀ (n i : Nat) (o : Oper), i ≤ n → ops[i]? = some o → (∀ e ∈ o.after, Region.binds .any e = true → D e.on = true) → ∀ j, bef ops j i → D j = true := by
  intro n
  induction n with
  | zero =>
    intro i o hi ho hall j hb
    obtain ⟨e, he, hbi, hc⟩ := bef_step ho hb
    rcases hc with rfl | ⟨hlt, _⟩
    · exact hall e he hbi
    · omega
  | succ n ih =>
    intro i o hi ho hall j hb
    obtain ⟨e, he, hbi, hc⟩ := bef_step ho hb
    rcases hc with rfl | ⟨hlt, hb'⟩
    · exact hall e he hbi
    · have hDe := hall e he hbi
      have hlt' : e.on < ops.size := by have := (Array.getElem?_eq_some_iff.1 ho).1; omega
      have hoe : ops[e.on]? = some ops[e.on] := by simp [hlt']
      exact ih e.on _ (by omega) hoe (fun e' he' hb'' => hcl _ _ hoe hDe e' he' hb'') j hb'
theorem bef_closed {ops : Array Oper} {D : Nat → Bool} (hcl : closedD ops D) (i j : Nat) (hb : bef ops i j) (hD : D j = true) : D i = true := by
  obtain ⟨m, hm, _⟩ := id hb
  have hlen : ∀ (l : List Oper) (acc : List Nat), (befL l acc).length = acc.length + l.length := by
    intro l
    induction l with
    | nil => intro acc; simp [befL]
    | cons o l ih => intro acc; simp only [befL]; rw [ih]; simp; omega
  have hj : j < ops.size := by
    have := (List.getElem?_eq_some_iff.1 hm).1
    rw [hlen] at this
    simpa using this
  have hoj : ops[j]? = some ops[j] := by simp [hj]
  exact bef_ready hcl j j _ (Nat.le_refl _) hoj (fun e he hbi => hcl _ _ hoj hD e he hbi) i hb

theorem disj_spec {l m : List Nat} (h : disj l m = true) {t : Nat} (h1 : t ∈ l) (h2 : t ∈ m) : False := by
  have := List.all_eq_true.1 h t h1
  simp at this
  exact this h2

structure PairOK (ops : Array Oper) (b : Prop) (oi : Oper) (ti : DT) (oj : Oper) (tj : DT) : Prop where
  ww : b ∨ ∀ t, t ∈ wrs oi ti → t ∈ wrs oj tj → False
  lw : b ∨ ∀ t, t ∈ oi.looksAt ops → t ∈ wrs oj tj → False
  wl : b ∨ ∀ t, t ∈ oj.looksAt ops → t ∈ wrs oi ti → False
  ee : b ∨ ¬ (ti.isE = true ∧ tj.isE = true)
  eq : b ∨ ¬ (ti.isE = true ∧ tj.isQ = true)
  qe : b ∨ ¬ (ti.isQ = true ∧ tj.isE = true)
  aa : ti.isA = true ∨ tj.isA = true → ∀ t, oi.dst = some t → oj.dst ≠ some t
  ad : ∀ t, t ∈ ti.ad → t ∈ tj.ad → False
  ea : tj.isA = true → ∀ t, t ∈ ti.ad → oj.dst ≠ some t
  ae : ti.isA = true → b ∨ ∀ t, oi.dst = some t → t ∈ tj.ad → False
theorem pairOK_spec {ops : Array Oper} {b : Bool} {oi oj : Oper} {ti tj : DT} (h : pairOK ops b oi ti oj tj = true) : PairOK ops (b = true) oi ti oj tj := by
  unfold pairOK at h
  simp only [Bool.and_eq_true, Bool.or_eq_true, Bool.not_eq_true'] at h
  obtain ⟨⟨⟨⟨⟨⟨⟨h1, h2⟩, h3⟩, h4⟩, h5⟩, h6⟩, h7⟩, h8⟩ := h
  have h4' : b = true ∨ (¬ (ti.isE = true ∧ tj.isE = true) ∧ ¬ (ti.isE = true ∧ tj.isQ = true) ∧ ¬ (ti.isQ = true ∧ tj.isE = true)) := by
    rcases h4 with h4 | h4
    · exact .inl h4
    · simp only [Bool.or_eq_false_iff] at h4
      refine .inr ⟨fun ⟨a, c⟩ => ?_, fun ⟨a, c⟩ => ?_, fun ⟨a, c⟩ => ?_⟩ <;> (rw [a, c] at h4; simp at h4)
  refine ⟨h1.imp id fun h t a c => disj_spec h a c, h2.imp id fun h t a c => disj_spec h a c, h3.imp id fun h t a c => disj_spec h a c, h4'.imp id (·.1), h4'.imp id (·.2.1), h4'.imp id (·.2.2), fun ha t e1 e2 => ?_, fun t a c => disj_spec h6 a c, fun ha t a e => ?_, fun ha => ?_⟩
  · rcases h5 with h5 | h5
    · rcases ha with ha | ha <;> rw [ha] at h5 <;> simp at h5
    · exact disj_spec (t := t) h5 (by rw [e1]; simp) (by rw [e2]; simp)
  · rcases h7 with h7 | h7
    · rw [ha] at h7; cases h7
    · exact disj_spec (t := t) h7 a (by rw [e]; simp)
  · rcases h8 with (h8 | h8) | h8
    · rw [ha] at h8; cases h8
    · exact .inl h8
    · exact .inr fun t e a => disj_spec (t := t) h8 (by rw [e]; simp) a
theorem chkD_spec {ops : Array Oper} {tags : List DT} (h : chkD ops tags = true) : tags.length = ops.size ∧ (∀ j oj tj, ops[j]? = some oj → tags[j]? = some tj → opOKd j oj tj = true) ∧
    ∀ i j oi ti oj tj, i < j → ops[i]? = some oi → tags[i]? = some ti → ops[j]? = some oj → tags[j]? = some tj → PairOK ops (bef ops i j) oi ti oj tj := by
  unfold chkD at h
  simp only [Bool.and_eq_true, decide_eq_true_eq] at h
  obtain ⟨h1, h2⟩ := h
  have main : ∀ j oj tj, ops[j]? = some oj → tags[j]? = some tj → opOKd j oj tj = true ∧ ∀ i oi ti, i < j → ops[i]? = some oi → tags[i]? = some ti → PairOK ops (bef ops i j) oi ti oj tj := by
    intro j oj tj hoj htj
    have hj : j < ops.size := (Array.getElem?_eq_some_iff.1 hoj).1
    have := List.all_eq_true.1 h2 j (List.mem_range.2 hj)
    have e1 : ops.toList[j]? = some oj := by simpa using hoj
    rw [e1, htj] at this
    cases e4 : (befL ops.toList [])[j]? with
    | none => rw [e4] at this; cases this
    | some m =>
      rw [e4] at this
      have this : (opOKd j oj tj && (List.range j).all fun i => match ops.toList[i]?, tags[i]? with
        | some oi, some ti => pairOK ops (m.testBit i) oi ti oj tj
        | _, _ => false) = true := this
      rw [Bool.and_eq_true] at this
      refine ⟨this.1, fun i oi ti hij hoi hti => ?_⟩
      have h3 := List.all_eq_true.1 this.2 i (List.mem_range.2 hij)
      have e5 : ops.toList[i]? = some oi := by simpa using hoi
      rw [e5, hti] at h3
      have hp := pairOK_spec h3
      have hb : m.testBit i = true → bef ops i j := fun hb => ⟨m, e4, hb⟩
      exact ⟨hp.ww.imp hb id, hp.lw.imp hb id, hp.wl.imp hb id, hp.ee.imp hb id, hp.eq.imp hb id, hp.qe.imp hb id, hp.aa, hp.ad, hp.ea, fun ha => (hp.ae ha).imp hb id⟩
  exact ⟨h1, fun j oj tj a b => (main j oj tj a b).1, fun i j oi ti oj tj hij a b c d => (main j oj tj c d).2 i oi ti hij a b⟩
end Go.Proofs.YtaicmkocmnikjaaDoor.Eng
