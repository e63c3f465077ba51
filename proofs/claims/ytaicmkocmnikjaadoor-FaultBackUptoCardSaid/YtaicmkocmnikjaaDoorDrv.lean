/- Regions whose order is drawn: the rule. -/
import Derived.Test.YtaicmkocmnikjaaDoorDru
namespace Go.Proofs.YtaicmkocmnikjaaDoor.Eng
set_option linter.all false
open Go Go.RowKit

structure Props (hid : List Res) (FV : List C) (PK : List Nat) (o : Oper) (t : DT) (r : TR) : Prop where
  wr : ∀ s, (r.w s).isSome = true → s ∈ wrs o t
  pkE : r.pk ≠ [] → t.isE = true
  rsE : r.rs' ≠ none → t.isE = true
  pkPK : ∀ k ∈ r.pk, k ∈ PK
  pw : ∀ s, r.pw s ≠ none → (t.isA = true ∧ o.dst = some s) ∨ s ∈ t.ad
  pws : ∀ s p, r.pw s = some (some p) → t.isA = true ∧ o.dst = some s
  wf : ∀ s c, r.w s = some c → (t.isE = true ∨ t.isQ = true) ∨ c ∈ FV ∨ c = .junk
  rsub : ∀ q, r.rs' = some q → subR hid q

theorem FactOK.props {E : Ctx} {hid : List Res} {ops : Array Oper} {FV : List C} {PK : List Nat} {o : Oper} {t : DT} {r : TR} {x : SX} (h : FactOK E hid ops FV PK o t r x) : Props hid FV PK o t r := by
  have quiet : ∀ (s : C), (∀ u c, (trQ o.dst s).w u = some c → (t.isE = true ∨ t.isQ = true) ∨ c ∈ FV ∨ c = .junk) → Props hid FV PK o t (trQ o.dst s) := fun s hw =>
    { wr := fun u hu => by
        simp only [trQ] at hu
        split at hu
        · rename_i e; unfold wrs; rw [e]; simp
        · cases hu
      pkE := fun hne => absurd rfl hne
      rsE := fun hne => absurd rfl hne
      pkPK := by simp [trQ]
      pw := fun u hu => absurd rfl hu
      pws := fun u p hu => by cases hu
      wf := hw
      rsub := fun q hq => by cases hq }
  cases t with
  | q =>
    obtain ⟨⟨s, rfl⟩, _⟩ := h
    exact quiet s fun _ _ _ => .inl (.inr rfl)
  | f =>
    obtain ⟨⟨s, rfl, hs⟩, _⟩ := h
    refine quiet s fun u c hu => .inr (.inl ?_)
    simp only [trQ] at hu
    split at hu
    · injection hu with hu; rw [← hu]; exact hs
    · cases hu
  | a =>
    obtain ⟨⟨ta, pd, hdd, rfl⟩, _⟩ := h
    refine ⟨fun u hu => ?_, fun hne => absurd rfl hne, fun hne => absurd rfl hne, by simp [trA], fun u hu => .inl ⟨rfl, ?_⟩, fun u p hu => ⟨rfl, ?_⟩, fun u c hu => .inr (.inr ?_), fun q hq => by cases hq⟩
    · simp only [trA] at hu
      split at hu
      · rename_i e; subst e; unfold wrs; rw [hdd]; simp
      · cases hu
    · simp only [trA] at hu
      split at hu
      · rename_i e; rw [e]; exact hdd
      · exact absurd rfl hu
    · simp only [trA] at hu
      split at hu
      · rename_i e; rw [e]; exact hdd
      · cases hu
    · simp only [trA] at hu
      split at hu
      · injection hu with hu; exact hu.symm
      · cases hu
  | e ad =>
    cases ad with
    | none =>
      obtain ⟨⟨s, rs', pk, rfl, hpk, hsub⟩, _⟩ := h
      refine ⟨fun u hu => ?_, fun _ => rfl, fun _ => rfl, hpk, fun u hu => absurd rfl hu, (fun u p hu => by cases hu), fun _ _ _ => .inl (.inl rfl), fun q hq => by injection hq with hq; rw [← hq]; exact hsub⟩
      simp only [trE] at hu
      split at hu
      · rename_i e; unfold wrs; rw [e]; simp
      · cases hu
    | some ta =>
      obtain ⟨⟨s, rs', pk, c, rfl, hpk, hsub⟩, _⟩ := h
      refine ⟨fun u hu => ?_, fun _ => rfl, fun _ => rfl, hpk, fun u hu => .inr ?_, fun u p hu => ?_, fun _ _ _ => .inl (.inl rfl), fun q hq => by injection hq with hq; rw [← hq]; exact hsub⟩
      · simp only [trE] at hu
        split at hu
        · rename_i e; unfold wrs; rw [e]; simp
        · split at hu
          · rename_i e; subst e; unfold wrs; simp [DT.ad]
          · cases hu
      · simp only [trE] at hu
        split at hu
        · rename_i e; subst e; simp [DT.ad]
        · exact absurd rfl hu
      · simp only [trE] at hu
        split at hu
        · injection hu with hu; cases hu
        · cases hu

theorem pend_some {D : Nat → Bool} {s : Nat} {p : Pd} : ∀ (l : List TR) (k : Nat) (x : SX), (runD D l k x).pend s = some p → x.pend s = some p ∨ ∃ j q p', l[j]? = some q ∧ D (k + j) = true ∧ q.pw s = some (some p')
  | [], k, x, h => .inl h
  | r :: l, k, x, h => by
    simp only [runD] at h
    rcases pend_some l (k + 1) _ h with h1 | ⟨j, q, p', h1, h2, h3⟩
    · by_cases hd : D k = true
      · rw [if_pos hd] at h1
        simp only [TR.step] at h1
        cases hp : r.pw s with
        | none => rw [hp] at h1; exact .inl h1
        | some q =>
          rw [hp] at h1
          simp only [Option.getD_some] at h1
          subst h1
          exact .inr ⟨0, r, p, rfl, by simpa using hd, hp⟩
      · rw [if_neg hd] at h1; exact .inl h1
    · exact .inr ⟨j + 1, q, p', by simpa using h1, by rw [show k + (j + 1) = k + 1 + j by omega]; exact h2, h3⟩

set_option maxHeartbeats 1000000 in
theorem evD_sound {E : Ctx} (wf : ∀ b, E.av b → b < E.w0.heap.size) {N : Nat} (hN : E.N = N) {ops : Array Oper} {tags : List DT} {il : List IOper} {hid : List Res} {st : St} {K : St → Prop} {Q : Exit → Act → World → Prop} (hchk : chkD ops tags = true) (hc : compOps E.P N ops ops.toList = some il)
    (hsub : subR hid st.rs) (h : evD E hid tags il ⟨st.fr, st.rs, [], [], []⟩ K) (hK : ∀ st' ν a w, K st' → Good E ν st' a w → Q .normal a w) {ν : List Value} {a : Act} {w : World} (hG : Good E ν st a w) :
    wpAny E.P .any ops Q ops.size (Array.replicate ops.size false) a w := by
  obtain ⟨c1, c2, c3⟩ := chkD_spec hchk
  have hgd : ∀ (i : Nat) (o : Oper) (t : DT), ops.toList[i]? = some o → tags[i]? = some t → t.isE = true ∨ t.isA = true → o.guard = none := by
    intro i o t ho ht hea
    have := c2 i o t (by simpa using ho) ht
    unfold opOKd at this
    rw [Bool.and_eq_true] at this
    have h2 := this.2
    cases t with
    | q => rcases hea with h | h <;> cases h
    | f => rcases hea with h | h <;> cases h
    | a => simp only [Bool.and_eq_true, Option.isNone_iff_eq_none] at h2; exact h2.1.1
    | e ad => simpa using h2
  obtain ⟨tr, FV, PK, st', hF, _, _, hno, hk, hfin⟩ := facts hN ops.toList tags il ⟨st.fr, st.rs, [], [], []⟩ hc h hgd
  obtain ⟨l1, l2, hfact⟩ := hF.get
  have hlen : tr.length = ops.size := by rw [← l1]; simp
  generalize hx0 : XD ⟨st.fr, st.rs, [], [], []⟩ = x0 at *
  have hx0r : x0.rs = st.rs := by rw [← hx0]; rfl
  have hx0p : ∀ t, x0.pend t = none := fun t => by rw [← hx0]; rfl
  -- the data of a place
  have dat : ∀ {i : Nat} {r : TR}, tr[i]? = some r → ∃ o t, ops[i]? = some o ∧ tags[i]? = some t ∧ FactOK E hid ops FV PK o t r (runD allD (tr.take i) 0 x0) := by
    intro i r hr
    have hi : i < ops.size := by rw [← hlen]; exact (List.getElem?_eq_some_iff.1 hr).1
    have ho : ops[i]? = some ops[i] := by simp [hi]
    have ht : tags[i]? = some tags[i] := by simp [c1, hi]
    exact ⟨_, _, ho, ht, hfact i _ _ r (by simpa using ho) ht hr⟩
  have noref : ∀ {c : C} {pk : List Nat}, c ∈ FV → (∀ k ∈ pk, k ∈ PK) → c.purge pk = c := fun hcf hpk => purge_same fun k hk => noRef_spec hno _ hcf k (hpk k hk)
  have junkp : ∀ pk, C.junk.purge pk = .junk := fun pk => purge_same fun k _ => by simp only [C.has]
  refine drawn_wp (Inv := InvD E) (tr := tr) (x0 := x0) hlen (fun i o ho e he hb => ?_) (bef ops) (fun D hcl i j hb hD => bef_closed hcl i j hb hD) (fun D i o hcl ho hall j hb => bef_ready hcl i i o (Nat.le_refl _) ho hall j hb) ?hcomm ?hsem ?hend ops.size (Array.replicate ops.size false) a w (by simp) (by simp) ?hcl0 ?hinv
  · have hi : i < ops.size := (Array.getElem?_eq_some_iff.1 ho).1
    have ht : tags[i]? = some tags[i] := by simp [c1, hi]
    have := c2 i o _ ho ht
    unfold opOKd at this
    rw [Bool.and_eq_true] at this
    have h1 := List.all_eq_true.1 this.1 e (by simpa using he)
    simp only [Bool.or_eq_true, Bool.not_eq_true', decide_eq_true_eq] at h1
    rcases h1 with h1 | h1
    · rw [h1] at hb; cases hb
    · exact h1
  case hcl0 =>
    intro i o ho hd e he hb
    exfalso
    have hi : i < ops.size := (Array.getElem?_eq_some_iff.1 ho).1
    simp [hi] at hd
  case hinv =>
    have : runD (fun j => (Array.replicate ops.size false).getD j false) tr 0 x0 = x0 := by
      have gen : ∀ (l : List TR) (k : Nat) (x : SX), runD (fun j => (Array.replicate ops.size false).getD j false) l k x = x := by
        intro l
        induction l with
        | nil => intro k x; rfl
        | cons r l ih =>
          intro k x
          simp only [runD]
          rw [if_neg (by rcases Nat.lt_or_ge k ops.size with h | h <;> simp [h])]
          exact ih _ _
      exact gen tr 0 x0
    rw [this]
    have hsf : x0.sf = slot st.fr := by rw [← hx0]; rfl
    refine ⟨ν, fun _ => 0, ?_, ⟨fun t p hp => ?_, fun t t' p p' hp => ?_, wf⟩⟩
    · rw [hsf, hx0r]
      refine GoodF.re hG (Below.refl _ _) rfl rfl rfl rfl rfl rfl fun b hb => ?_
      rcases hb with hb | ⟨t, p, hp, _⟩
      · exact ⟨.inl hb, hG.rg.av b hb⟩
      · rw [hx0p] at hp; cases hp
    · rw [hx0p] at hp; cases hp
    · rw [hx0p] at hp; cases hp
  case hend =>
    intro a' w' hI
    rw [hfin] at hI
    obtain ⟨ν', B, hG', hP⟩ := hI
    refine hK st' ν' a' w' hk (GoodF.re hG' (Below.refl _ _) rfl rfl rfl rfl rfl rfl fun b hb => ⟨.inl (.inl hb), ?_⟩)
    exact Nat.lt_of_lt_of_le (wf b hb) hG'.rg.n0
  case hcomm =>
    intro i j r q hij hr hq hnb
    obtain ⟨oi, ti, hoi, hti, fi⟩ := dat hr
    obtain ⟨oj, tj, hoj, htj, fj⟩ := dat hq
    have pr := fi.props
    have pq := fj.props
    have hp := c3 i j oi ti oj tj hij hoi hti hoj htj
    have ee := hp.ee.resolve_left hnb
    have eq := hp.eq.resolve_left hnb
    have qe := hp.qe.resolve_left hnb
    refine ⟨fun t => ?_, fun t c hc' => ?_, fun t c hc' => ?_, ?_, ?_, fun t => ?_⟩
    · cases h1 : r.w t with
      | none => exact .inl rfl
      | some c =>
        cases h2 : q.w t with
        | none => exact .inr rfl
        | some c' => exact (hp.ww.resolve_left hnb t (pr.wr t (by rw [h1]; rfl)) (pq.wr t (by rw [h2]; rfl))).elim
    · cases hpk : q.pk with
      | nil => rfl
      | cons k l =>
        rw [← hpk]
        have hE := pq.pkE (by rw [hpk]; simp)
        rcases pr.wf t c hc' with (h1 | h1) | h1 | h1
        · exact (ee ⟨h1, hE⟩).elim
        · exact (qe ⟨h1, hE⟩).elim
        · exact noref h1 pq.pkPK
        · rw [h1]; exact junkp _
    · cases hpk : r.pk with
      | nil => rfl
      | cons k l =>
        rw [← hpk]
        have hE := pr.pkE (by rw [hpk]; simp)
        rcases pq.wf t c hc' with (h1 | h1) | h1 | h1
        · exact (ee ⟨hE, h1⟩).elim
        · exact (eq ⟨hE, h1⟩).elim
        · exact noref h1 pr.pkPK
        · rw [h1]; exact junkp _
    · by_cases h1 : r.pk = []
      · exact .inl h1
      · by_cases h2 : q.pk = []
        · exact .inr h2
        · exact (ee ⟨pr.pkE h1, pq.pkE h2⟩).elim
    · by_cases h1 : r.rs' = none
      · exact .inl h1
      · by_cases h2 : q.rs' = none
        · exact .inr h2
        · exact (ee ⟨pr.rsE h1, pq.rsE h2⟩).elim
    · by_cases h1 : r.pw t = none
      · exact .inl h1
      · by_cases h2 : q.pw t = none
        · exact .inr h2
        · exfalso
          rcases pr.pw t h1 with ⟨a1, d1⟩ | a1 <;> rcases pq.pw t h2 with ⟨a2, d2⟩ | a2
          · exact hp.aa (.inl a1) t d1 d2
          · exact (hp.ae a1).resolve_left hnb t d1 a2
          · exact hp.ea a2 t a1 d2
          · exact hp.ad t a1 a2
  case hsem =>
    intro i o r D ho hr hcl hDi hbD K' a' w' hI hK'
    obtain ⟨o', t, ho', ht, fi⟩ := dat hr
    rw [ho] at ho'
    injection ho' with ho'
    subst ho'
    have hi : i < tr.length := (List.getElem?_eq_some_iff.1 hr).1
    have hsplit : tr = tr.take i ++ r :: tr.drop (i + 1) := by
      have e := List.take_append_drop i tr
      rw [List.drop_eq_getElem_cons hi] at e
      have : tr[i] = r := by rw [List.getElem?_eq_getElem hi] at hr; injection hr
      rw [this] at e
      exact e.symm
    have htl : (tr.take i).length = i := by rw [List.length_take]; omega
    have hy : runD D tr 0 x0 = runD D (tr.drop (i + 1)) (i + 1) (runD D (tr.take i) 0 x0) := by
      conv => lhs; rw [hsplit]
      rw [runD_append, htl]
      simp only [runD, Nat.zero_add, hDi, Bool.false_eq_true, if_false]
    have pre_get : ∀ {j : Nat} {q : TR}, (tr.take i)[j]? = some q → j < i ∧ tr[j]? = some q := fun {j q} hq => by
      rw [List.getElem?_take] at hq
      split at hq
      · exact ⟨by assumption, hq⟩
      · cases hq
    have post_get : ∀ {j : Nat} {q : TR}, (tr.drop (i + 1))[j]? = some q → tr[i + 1 + j]? = some q := fun {j q} hq => by rw [List.getElem?_drop] at hq; exact hq
    have before : ∀ {j : Nat} {q : TR}, j < i → tr[j]? = some q → ∃ oj tj, Props hid FV PK oj tj q ∧ PairOK ops (bef ops j i) oj tj o t := fun {j q} hji hq => by
      obtain ⟨oj, tj, hoj, htj, fj⟩ := dat hq
      exact ⟨oj, tj, fj.props, c3 j i oj tj o t hji hoj htj ho ht⟩
    have behind : ∀ {j : Nat} {q : TR}, i < j → tr[j]? = some q → D j = true → ∃ oj tj, Props hid FV PK oj tj q ∧ PairOK ops (bef ops i j) o t oj tj ∧ ¬ bef ops i j := fun {j q} hij hq hd => by
      obtain ⟨oj, tj, hoj, htj, fj⟩ := dat hq
      exact ⟨oj, tj, fj.props, c3 i j o t oj tj hij ho ht hoj htj, fun hb => by have := bef_closed hcl i j hb hd; rw [hDi] at this; cases this⟩
    -- no variable of another's
    have hPd : ∀ s p, (runD D tr 0 x0).pend s = some p → o.dst ≠ some s := by
      intro s p hp hds
      rcases pend_some tr 0 x0 hp with h1 | ⟨j, q, p', h1, h2, h3⟩
      · rw [hx0p] at h1; cases h1
      · rw [Nat.zero_add] at h2
        rcases Nat.lt_trichotomy j i with hlt | heq | hgt
        · obtain ⟨oj, tj, pj, hp⟩ := before hlt h1
          obtain ⟨a1, d1⟩ := pj.pws s p' h3
          exact hp.aa (.inl a1) s d1 hds
        · subst heq; rw [hDi] at h2; cases h2
        · obtain ⟨oj, tj, pj, hp, _⟩ := behind hgt h1 h2
          obtain ⟨a1, d1⟩ := pj.pws s p' h3
          exact hp.aa (.inr a1) s hds d1
    -- what it looks at
    have hw_pre : ∀ s ∈ o.looksAt ops, ∀ (j : Nat) (q : TR), (tr.take i)[j]? = some q → (q.w s).isSome = true → D j = true := by
      intro s hs j q hq hsm
      obtain ⟨hji, hq'⟩ := pre_get hq
      obtain ⟨oj, tj, pj, hp⟩ := before hji hq'
      rcases hp.wl with hb | hb
      · exact hbD j hb
      · exact (hb s hs (pj.wr s hsm)).elim
    have hw_post : ∀ s ∈ o.looksAt ops, ∀ (j : Nat) (q : TR), (tr.drop (i + 1))[j]? = some q → D (i + 1 + j) = true → q.w s = none := by
      intro s hs j q hq hd
      obtain ⟨oj, tj, pj, hp, hnb⟩ := behind (by omega) (post_get hq) hd
      cases hqs : q.w s with
      | none => rfl
      | some c => exact (hp.lw.resolve_left hnb s hs (pj.wr s (by rw [hqs]; rfl))).elim
    have fixedE : t.isE = true ∨ t.isQ = true → (∀ {j : Nat} {q : TR}, j < i → tr[j]? = some q → q.pk ≠ [] ∨ q.rs' ≠ none → D j = true) ∧ (∀ {j : Nat} {q : TR}, i < j → tr[j]? = some q → D j = true → q.pk = [] ∧ q.rs' = none) := by
      intro hfx
      refine ⟨fun {j q} hji hq hne => ?_, fun {j q} hij hq hd => ?_⟩
      · obtain ⟨oj, tj, pj, hp⟩ := before hji hq
        have hE : tj.isE = true := hne.elim pj.pkE pj.rsE
        rcases hfx with hfx | hfx
        · exact hbD j (hp.ee.resolve_right fun h => h ⟨hE, hfx⟩)
        · exact hbD j (hp.eq.resolve_right fun h => h ⟨hE, hfx⟩)
      · obtain ⟨oj, tj, pj, hp, hnb⟩ := behind hij hq hd
        have hnE : ¬ tj.isE = true := fun hE => by
          rcases hfx with hfx | hfx
          · exact hp.ee.resolve_left hnb ⟨hfx, hE⟩
          · exact hp.qe.resolve_left hnb ⟨hfx, hE⟩
        refine ⟨?_, ?_⟩
        · cases h0 : q.pk with
          | nil => rfl
          | cons k l => exact (hnE (pj.pkE (by rw [h0]; simp))).elim
        · cases h0 : q.rs' with
          | none => rfl
          | some l => exact (hnE (pj.rsE (by rw [h0]; simp))).elim
    have agreeF : t.isE = true ∨ t.isQ = true → agree ops o (runD allD (tr.take i) 0 x0) (runD D tr 0 x0) ∧ (runD D tr 0 x0).rs = (runD allD (tr.take i) 0 x0).rs := by
      intro hfx
      obtain ⟨f1, f2⟩ := fixedE hfx
      refine ⟨fun s hs => ?_, ?_⟩
      · rw [hy]
        refine sf_post _ _ _ (sf_pre true _ _ rfl _ _ rfl (hw_pre s hs) (.inl ⟨rfl, fun j q hq hne => ?_⟩)) fun j q hq hd => ⟨hw_post s hs j q hq hd, ?_⟩
        · obtain ⟨h1, h2⟩ := pre_get hq
          exact f1 h1 h2 (.inl hne)
        · rw [(f2 (by omega) (post_get hq) hd).1]; rfl
      · rw [hy, rs_post _ _ _ fun j q hq hd => (f2 (by omega) (post_get hq) hd).2]
        exact rs_pre _ _ _ fun j q hq hne => by
          obtain ⟨h1, h2⟩ := pre_get hq
          rw [Nat.zero_add]
          exact f1 h1 h2 (.inr hne)
    have fin : Sem E ops o r (runD D tr 0 x0) → wpOp E.P ops Q i K' a' w' := fun hs => by
      have := hs hPd K' Q a' w' hI hK'
      unfold wpOp
      rw [ho]
      exact this
    cases t with
    | q =>
      obtain ⟨_, hs⟩ := fi
      obtain ⟨h1, h2⟩ := agreeF (.inr rfl)
      exact fin (hs _ h1 h2)
    | f =>
      obtain ⟨_, hv, hs⟩ := fi
      refine fin (hs _ (fun s hs' => ?_) ?_)
      · rw [hy]
        obtain ⟨hnj, hfv⟩ := hv s hs'
        have hpk : ∀ {j : Nat} {q : TR}, tr[j]? = some q → ((runD allD (tr.take i) 0 x0).sf s).purge q.pk = (runD allD (tr.take i) 0 x0).sf s := fun {j q} hq => by
          obtain ⟨_, _, _, _, fj⟩ := dat hq
          exact noref hfv fj.props.pkPK
        exact sf_post _ _ _ (sf_pre false _ _ rfl _ _ rfl (hw_pre s hs') (.inr ⟨hnj, fun j q hq => hpk (pre_get hq).2⟩)) fun j q hq hd => ⟨hw_post s hs' j q hq hd, hpk (post_get hq)⟩
      · refine rs_all tr 0 x0 (by rw [hx0r]; exact hsub) fun q hq rs' hrs' => ?_
        obtain ⟨j, hj⟩ := List.mem_iff_getElem?.1 hq
        obtain ⟨_, _, _, _, fj⟩ := dat hj
        exact fj.props.rsub _ hrs'
    | a =>
      obtain ⟨_, hs⟩ := fi
      exact fin (hs _)
    | e ad =>
      obtain ⟨h1, h2⟩ := agreeF (.inl rfl)
      cases ad with
      | none =>
        obtain ⟨_, hs⟩ := fi
        exact fin (hs _ h1 h2)
      | some ta =>
        obtain ⟨_, hs⟩ := fi
        refine fin (hs _ h1 h2 ?_)
        rw [hy, pend_post _ _ _ fun j q hq hd => ?_]
        · refine pend_pre _ _ _ _ rfl fun j q hq hne => ?_
          obtain ⟨hji, hq'⟩ := pre_get hq
          obtain ⟨oj, tj, pj, hp⟩ := before hji hq'
          rw [Nat.zero_add]
          rcases pj.pw ta hne with ⟨a1, d1⟩ | a1
          · rcases hp.ae a1 with hb | hb
            · exact hbD j hb
            · exact (hb ta d1 (by simp [DT.ad])).elim
          · exact (hp.ad ta a1 (by simp [DT.ad])).elim
        · obtain ⟨oj, tj, pj, hp, hnb⟩ := behind (by omega) (post_get hq) hd
          cases hpw : q.pw ta with
          | none => rfl
          | some z =>
            exfalso
            rcases pj.pw ta (by rw [hpw]; simp) with ⟨a1, d1⟩ | a1
            · exact hp.ea a1 ta (by simp [DT.ad]) d1
            · exact hp.ad ta (by simp [DT.ad]) a1
end Go.Proofs.YtaicmkocmnikjaaDoor.Eng
