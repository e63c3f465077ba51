/- Regions whose order is drawn: what each operation does with what is known. -/
import Derived.Test.YtaicmkocmnikjaaDoorDrs
namespace Go.Proofs.YtaicmkocmnikjaaDoor.Eng
set_option linter.all false
open Go Go.RowKit

def trQ (d : Option Nat) (s : C) : TR := ⟨fun t => if d = some t then some s else none, [], none, fun _ => none⟩
def trA (ta : Nat) (p : Pd) : TR := ⟨fun t => if t = ta then some .junk else none, [], none, fun t => if t = ta then some (some p) else none⟩
def trE (d : Option Nat) (s : C) (rs' : List Res) (pk : List Nat) (ad : Option (Nat × C)) : TR :=
  ⟨fun t => if d = some t then some s else match ad with
    | some (ta, c) => if t = ta then some (c.purge pk) else none
    | none => none, pk, some rs', fun t => match ad with
    | some (ta, _) => if t = ta then some none else none
    | none => none⟩

def avP (E : Ctx) (B : Nat → Nat) (pend : Nat → Option Pd) (b : Nat) : Prop := E.av b ∨ ∃ t p, pend t = some p ∧ B t = b
structure PendOK (E : Ctx) (B : Nat → Nat) (pend : Nat → Option Pd) (a : Act) (w : World) : Prop where
  cell : ∀ t p, pend t = some p → a.tmps.getD t undef = .pointer (some ⟨B t, 0, none⟩) ∧ w.heap[B t]? = some (.cells p.zero.toArray p.ty (0, 0)) ∧ E.w0.heap.size ≤ B t ∧ oneAll p.zero = true
  inj : ∀ t t' p p', pend t = some p → pend t' = some p' → t ≠ t' → B t ≠ B t'
  av0 : ∀ b, E.av b → b < E.w0.heap.size
def InvD (E : Ctx) (x : SX) (a : Act) (w : World) : Prop := ∃ ν B, GoodF { E with av := avP E B x.pend } ν x.sf x.rs a w ∧ PendOK E B x.pend a w

def runOp (P : Program) (ops : Array Oper) (Q : Exit → Act → World → Prop) (o : Oper) (K : Act → World → Prop) (a : Act) (w : World) : Prop :=
  if Region.wanted o (yielded ops a.tmps) then o.wp P a w K Q ∨ (o.asks P a w ∧ LetsOut Q) else K (a.put o.dst undef) w

/-- what is asked of an operation at what is known -/
def Sem (E : Ctx) (ops : Array Oper) (o : Oper) (r : TR) (y : SX) : Prop :=
  (∀ t p, y.pend t = some p → o.dst ≠ some t) → ∀ (K : Act → World → Prop) (Q : Exit → Act → World → Prop) a w, InvD E y a w → (∀ a' w', InvD E (r.step y) a' w' → K a' w') → runOp E.P ops Q o K a w

def agree (ops : Array Oper) (o : Oper) (x y : SX) : Prop := ∀ t ∈ o.looksAt ops, y.sf t = x.sf t

section
variable {E : Ctx} {ν ν' : List Value} {a : Act} {w w' : World}

theorem is_uses {P : Program} {ty : TypeId} {op : Op} {io : IOp} (h : Is P ty op io) : (∀ x ∈ io.uses, x ∈ op.operands.toList) ∧ ∀ t, Operand.tmp t ∈ op.operands.toList → Operand.tmp t ∈ io.uses := by
  cases h with
  | call c f hc hcl =>
    constructor
    · intro x hx; simp only [Op.operands, Call.operands, hc]; simpa [IOp.uses] using Or.inr hx
    · intro t ht; simp only [Op.operands, Call.operands, hc] at ht; simpa [IOp.uses] using ht
  | callv c x hc =>
    constructor
    · intro y hy; simp only [Op.operands, Call.operands, hc]; simpa [IOp.uses] using hy
    · intro t ht; simp only [Op.operands, Call.operands, hc] at ht; simpa [IOp.uses] using ht
  | lenS c t x hc hat ha ht => constructor <;> intro y hy <;> simp_all [Op.operands, Call.operands, IOp.uses]
  | lenL c t e x hc hat ha ht => constructor <;> intro y hy <;> simp_all [Op.operands, Call.operands, IOp.uses]
  | app c t e i s x hc hat ha ht hi z hz hzs => constructor <;> intro y hy <;> simp_all [Op.operands, Call.operands, IOp.uses]
  | cap c t e x hc hat ha ht => constructor <;> intro y hy <;> simp_all [Op.operands, Call.operands, IOp.uses]
  | appz c t t' kn e i s x hc hat ha ht ht' hi z hz hzs h0 => constructor <;> intro y hy <;> simp_all [Op.operands, Call.operands, IOp.uses]
  | sub64 c f x y b hc hcl ha => constructor <;> intro z hz <;> simp_all [Op.operands, Call.operands, IOp.uses]
  | slca t e n ie x ht hi => constructor <;> intro y hy <;> simpa [IOp.uses, Op.operands] using hy
  | apps c t t' e i s x hc hat ha ht ht' hi hz hs1 hb1 => constructor <;> intro y hy <;> simp_all [Op.operands, Call.operands, IOp.uses]
  | max c x y hc ha => constructor <;> intro z hz <;> simp_all [Op.operands, Call.operands, IOp.uses]
  | min c x y hc ha => constructor <;> intro z hz <;> simp_all [Op.operands, Call.operands, IOp.uses]
  | build t ps fields i z r ht hi hz hall hp =>
    have : r.map (·.2.2) = ps.toList.map (·.2) := by
      have gen : ∀ (l : List (Nat × Operand)) (r : List (Nat × Nat × Operand)), partsOf P fields l = some r → r.map (·.2.2) = l.map (·.2) := by
        intro l
        induction l with
        | nil => intro r h; simp [partsOf] at h; subst h; rfl
        | cons q l ih =>
          obtain ⟨f, x⟩ := q
          intro r h
          simp only [partsOf] at h
          split at h
          · split at h
            · rename_i hi' r' hr hrr
              injection h with h
              subst h
              simp [ih _ hrr]
            · cases h
          · cases h
      exact gen _ _ hp
    constructor <;> intro y hy <;> simp only [IOp.uses, this, Op.operands] at hy ⊢ <;> simpa using hy
  | bsl t e n ps i z ht hi hz hn hzs => constructor <;> intro y hy <;> simp only [IOp.uses, Op.operands] at hy ⊢ <;> simpa using hy
  | clo f first caps hf =>
    have hf0 : first = #[] := Array.eq_empty_of_size_eq_zero hf
    subst hf0
    constructor <;> intro y hy <;> simp only [IOp.uses, Op.operands] at hy ⊢ <;> simpa using hy
  | zcap t e x lo hi mx ie ht hi' hb =>
    obtain ⟨rfl, ⟨k1, rfl⟩, ⟨k2, rfl⟩⟩ : lo = none ∧ (∃ k, hi = some (.const (.int k 0))) ∧ ∃ k, mx = .const (.int k 0) := by
      unfold isZeroSl at hb
      split at hb
      · rename_i e1 e2 e3
        injection e3 with e3
        exact ⟨rfl, ⟨_, rfl⟩, ⟨_, e3⟩⟩
      · cases hb
    constructor <;> intro y hy <;> simp [IOp.uses, Op.operands] at hy ⊢ <;> simp [hy]
  | slcs t x lo hi ht => constructor <;> intro y hy <;> cases lo <;> cases hi <;> simp [IOp.uses, Op.operands] at hy ⊢ <;> simpa using hy
  | slcl t e ie x lo hi ht hi' => constructor <;> intro y hy <;> cases lo <;> cases hi <;> simp [IOp.uses, Op.operands] at hy ⊢ <;> simpa using hy
  | raw o => constructor <;> intro y hy <;> simpa [IOp.uses] using hy
  | bsl0 t e ps i ht hi hps =>
    have hp0 : ps = #[] := Array.eq_empty_of_size_eq_zero hps
    subst hp0
    constructor <;> intro y hy <;> simp [IOp.uses, Op.operands] at hy
  | mkmap t e str hk => constructor <;> intro y hy <;> simp [IOp.uses, Op.operands] at hy ⊢
  | _ => constructor <;> intro y hy <;> simp [IOp.uses, Op.operands] at hy ⊢ <;> first | exact hy | simp [hy]

theorem looks_tmp {ops : Array Oper} {o : Oper} {t : Nat} (h : Operand.tmp t ∈ o.op.operands.toList) : t ∈ o.looksAt ops := List.mem_append_left _ (List.mem_filterMap.2 ⟨.tmp t, h, rfl⟩)
theorem looks_guard {ops : Array Oper} {o : Oper} {j s : Nat} {want : Bool} (hg : o.guard = some (j, want)) (hs : (ops[j]?).bind (·.dst) = some s) : s ∈ o.looksAt ops := by
  unfold Oper.looksAt
  refine List.mem_append_right _ ?_
  rw [hg]
  simp [hs]

/-- what the operands are, at what is known -/
theorem den_uses {P : Program} {ops : Array Oper} {o : Oper} {io : IOp} {fr : List (Nat × C)} {O : Nat → Prop} {sf : Nat → C} (his : Is P o.type o.op io) (ha : ∀ t ∈ o.looksAt ops, sf t = slot fr t) (hd : ∀ t, Den ν w O (sf t) (a.tmps.getD t undef)) :
    ∀ x ∈ io.uses, Den ν w O (opv fr x) (a.eval x) := by
  intro x hx
  rw [opv_opf]
  refine den_op x fun t ht => ?_
  subst ht
  rw [← ha t (looks_tmp ((is_uses his).1 _ hx))]
  exact hd t

/-- wider avoidance, in a later world -/
theorem GoodF.re {E E' : Ctx} {sf : Nat → C} {rs : List Res} (h : GoodF E ν sf rs a w) (hb : Below w.heap.size w w') (hP : E'.P = E.P) (hN : E'.N = E.N) (h0 : E'.w0 = E.w0) (ho : E'.own0 = E.own0) (hnu : E'.nu0 = E.nu0) (hpk : E'.pk0 = E.pk0)
    (hav : ∀ b, E'.av b → (E.av b ∨ w.heap.size ≤ b) ∧ b < w'.heap.size) : GoodF E' ν sf rs a w' := by
  have hk : Keeps (OO E.av rs ν) w (OO E'.av rs ν) w' := by
    intro b hlt hn
    refine ⟨Nat.lt_of_lt_of_le hlt hb.size, fun h' => ?_, hb.block b hlt⟩
    rcases h' with h' | h'
    · rcases (hav b h').1 with h1 | h1
      · exact hn (.inl h1)
      · omega
    · exact hn (.inr h')
  refine ⟨h.dfr, by rw [hN]; exact h.size, fun t => Den.keep hk (h.fr t), ⟨h.rg.len, fun k r hr => ?_, h.rg.dis, fun b ho' => ?_, fun b hb' => (hav b hb').2, ?_⟩, ?_, by rw [hnu, hpk]; exact h.nu⟩
  · obtain ⟨x, hx, hok⟩ := h.rg.res k r hr
    have := ResOK.mv (pk := []) hok hk (fun _ _ _ h => h) fun b hf => hb.block b (h.rg.lt hr hx hf)
    rw [purge_nil1] at this
    exact ⟨x, hx, this⟩
  · obtain ⟨h1, h2, h3⟩ := h.rg.low b ho'
    refine ⟨Nat.lt_of_lt_of_le h1 hb.size, fun h' => ?_, by rw [ho, h0]; exact h3⟩
    rcases (hav b h').1 with h4 | h4
    · exact h2 h4
    · omega
  · rw [h0]; exact Nat.le_trans h.rg.n0 hb.size
  · rw [h0, ho]
    exact ⟨hb.os.trans h.frm.os, hb.tape.trans h.frm.tape, hb.output.trans h.frm.output, Nat.le_trans h.frm.size hb.size, fun b hlt hn => (hb.block b (Nat.lt_of_lt_of_le hlt h.frm.size)).trans (h.frm.block b hlt hn)⟩

theorem PendOK.put {B : Nat → Nat} {pend : Nat → Option Pd} {N : Nat} (h : PendOK E B pend a w) (hs : a.tmps.size = N) {d : Option Nat} {y : Value} (hd : dstOK N d = true) (hn : ∀ t p, pend t = some p → d ≠ some t) (hb : ∀ b, b < w.heap.size → (∃ t p, pend t = some p ∧ B t = b) → w'.heap[b]? = w.heap[b]?) : PendOK E B pend (a.put d y) w' := by
  refine ⟨fun t p hp => ?_, h.inj, h.av0⟩
  obtain ⟨h1, h2, h3, h4⟩ := h.cell t p hp
  refine ⟨?_, (hb _ (Array.getElem?_eq_some_iff.1 h2).1 ⟨t, p, hp, rfl⟩).trans h2, h3, h4⟩
  rw [← h1]
  cases d with
  | none => rfl
  | some d =>
    have hlt : d < N := by simpa [dstOK] using hd
    rw [put_get hs hlt, if_neg (fun e => hn t p hp (by rw [e]))]

theorem step_trQ (d : Option Nat) (s : C) (y : SX) : (trQ d s).step y = ⟨sput y.sf d s, y.rs, y.pend⟩ := by
  unfold trQ TR.step
  simp only [Option.getD_none, SX.mk.injEq, true_and, and_true]
  funext t
  simp only [sput]
  split <;> rfl

/-- behind a quiet operation -/
theorem inv_quiet {x : SX} {B : Nat → Nat} (hG : GoodF { E with av := avP E B x.pend } ν x.sf x.rs a w) (hP : PendOK E B x.pend a w) {d : Option Nat} {s : C} {y : Value} (hd : dstOK E.N d = true) (hn : ∀ t p, x.pend t = some p → d ≠ some t) (hb : Below w.heap.size w w')
    (hs : Den ν w' (OO (avP E B x.pend) x.rs ν) s y) : InvD E ((trQ d s).step x) (a.put d y) w' := by
  rw [step_trQ]
  exact ⟨ν, B, GoodF.put (GoodF.below hG hb) hd hs, hP.put hG.size hd hn fun b hlt _ => hb.block b hlt⟩

theorem semQ {ops : Array Oper} {o : Oper} {ioo : IOper} {x : DS} {N : Nat} (hN : E.N = N) (hc : compOper E.P N ops o = some ioo) {K : C → Prop} (h : evQ1 E x.fr x.rs ioo K) :
    ∃ s, K s ∧ ∀ y : SX, (∀ t ∈ o.looksAt ops, y.sf t = slot x.fr t) → y.rs = x.rs → Sem E ops o (trQ o.dst s) y := by
  obtain ⟨hd, his, hdst, hg⟩ := compOper_spec hc
  rw [← hN] at hd
  unfold evQ1 at h
  rcases hg with ⟨hg1, hg2⟩ | ⟨j, s0, want, hg1, hg2, hs0⟩
  · rw [hg2] at h
    simp only at h
    obtain ⟨s, hk, hY⟩ := evQ_sound his h
    refine ⟨s, hk, fun y ha hr hn K' Q a w hI hK' => ?_⟩
    obtain ⟨ν, B, hG, hP⟩ := hI
    unfold runOp
    rw [if_pos (by simp [Region.wanted, hg1])]
    refine .inl (hY (avP E B y.pend) ν a w (by rw [← hr]; exact hG.rg) (fun b hb => .inl hb) hG.frm (by rw [← hr]; exact den_uses his ha hG.fr) rfl K' Q fun v w' hb hs => ?_)
    exact hK' _ _ (inv_quiet hG hP hd hn hb (by rw [hr]; exact hs))
  · rw [hg2] at h
    simp only at h
    have gen : ∀ (p : Bool), (∀ (y : SX) ν (B : Nat → Nat) a w, (∀ t ∈ o.looksAt ops, y.sf t = slot x.fr t) → GoodF { E with av := avP E B y.pend } ν y.sf y.rs a w → (yielded ops a.tmps j == some want) = p) → evQ E (opv x.fr) x.rs p ioo.op (KgP p K) →
        ∃ s, K s ∧ ∀ y : SX, (∀ t ∈ o.looksAt ops, y.sf t = slot x.fr t) → y.rs = x.rs → Sem E ops o (trQ o.dst s) y := by
      intro p hp h
      obtain ⟨s, hk, hY⟩ := evQ_sound his h
      refine ⟨.g p s, hk, fun y ha hr hn K' Q a w hI hK' => ?_⟩
      obtain ⟨ν, B, hG, hP⟩ := hI
      unfold runOp
      rw [wanted_val hg1, hp y ν B a w ha hG]
      cases hpp : p with
      | false =>
        rw [if_neg (by simp)]
        refine hK' _ _ ?_
        have := inv_quiet hG hP (y := undef) (s := .g p s) hd hn (Below.refl _ _) (den_skip hpp)
        exact this
      | true =>
        rw [if_pos rfl]
        refine .inl (hY (avP E B y.pend) ν a w (by rw [← hr]; exact hG.rg) (fun b hb => .inl hb) hG.frm (by rw [← hr]; exact den_uses his ha hG.fr) hpp K' Q fun v w' hb hs => ?_)
        have := inv_quiet hG hP (s := .g p s) hd hn hb (den_took hpp (by rw [hr]; exact hs))
        exact hK' _ _ this
    have gval : ∀ (y : SX) ν (B : Nat → Nat) a w, (∀ t ∈ o.looksAt ops, y.sf t = slot x.fr t) → GoodF { E with av := avP E B y.pend } ν y.sf y.rs a w →
        (∀ b, slot x.fr s0 = .v (.bool b) → yielded ops a.tmps j = some b) ∧ (∀ q b, slot x.fr s0 = .g q (.v (.bool b)) → (q = true → yielded ops a.tmps j = some b) ∧ (q = false → yielded ops a.tmps j = none)) := by
      intro y ν B a w ha hG
      have hd' := hG.fr s0
      rw [ha s0 (looks_guard hg1 hs0)] at hd'
      exact guard_valF (sf := slot x.fr) hs0 hd'
    split at h
    · rename_i b hb
      exact gen _ (fun y ν B a w ha hG => by rw [(gval y ν B a w ha hG).1 b hb]; rfl) h
    · rename_i q b hb
      refine gen _ (fun y ν B a w ha hG => ?_) h
      have := (gval y ν B a w ha hG).2 q b hb
      cases hq : q with
      | true => rw [this.1 hq]; rfl
      | false => rw [this.2 hq]; rfl
    · exact h.elim

theorem subR_get : ∀ {h rs : List Res} {k : Nat} {r : Res}, subR h rs → h[k]? = some r → ∃ r', rs[k]? = some r' ∧ (r = .gone ∨ r = r')
  | [], _, _, _, _, hk => by simp at hk
  | .gone :: h, [], _, _, hs, _ => hs.elim
  | .box _ _ :: h, [], _, _, hs, _ => hs.elim
  | .row _ _ _ :: h, [], _, _, hs, _ => hs.elim
  | .map _ _ :: h, [], _, _, hs, _ => hs.elim
  | x :: h, y :: rs, 0, r, hs, hk => by
    simp at hk
    subst hk
    refine ⟨y, rfl, ?_⟩
    cases x <;> simp only [subR] at hs <;> first | exact .inl rfl | exact .inr hs.1
  | x :: h, y :: rs, k + 1, r, hs, hk => by
    have hs' : subR h rs := by cases x <;> simp only [subR] at hs <;> first | exact hs | exact hs.2
    obtain ⟨r', h1, h2⟩ := subR_get (k := k) hs' (by simpa using hk)
    exact ⟨r', by simpa using h1, h2⟩
theorem subR_hr {h rs : List Res} {O : Nat → Prop} (hs : subR h rs) (hR : HR ν w O rs) : HR ν w O h := by
  intro k r hk
  obtain ⟨r', h1, h2⟩ := subR_get hs hk
  obtain ⟨x, hx, hok⟩ := hR k r' h1
  refine ⟨x, hx, ?_⟩
  rcases h2 with rfl | rfl
  · trivial
  · exact hok

theorem semF {ops : Array Oper} {o : Oper} {ioo : IOper} {fr : List (Nat × C)} {hid : List Res} {N : Nat} (hN : E.N = N) (hc : compOper E.P N ops o = some ioo) {K : C → Prop} (h : evF1 fr hid ioo K) :
    ∃ s, K s ∧ ∀ y : SX, (∀ t ∈ o.looksAt ops, y.sf t = slot fr t) → subR hid y.rs → Sem E ops o (trQ o.dst s) y := by
  obtain ⟨hd, his, hdst, hg⟩ := compOper_spec hc
  rw [← hN] at hd
  unfold evF1 at h
  rcases hg with ⟨hg1, hg2⟩ | ⟨j, s0, want, hg1, hg2, hs0⟩
  · rw [hg2] at h
    simp only at h
    obtain ⟨s, hk, hY⟩ := pureP_sound his h
    refine ⟨s, hk, fun y ha hr hn K' Q a w hI hK' => ?_⟩
    obtain ⟨ν, B, hG, hP⟩ := hI
    unfold runOp
    rw [if_pos (by simp [Region.wanted, hg1])]
    refine .inl ((hY ν a w _ (subR_hr hr hG.rg.hr) (den_uses his ha hG.fr) rfl).yq K' Q fun v w' hb hs => ?_)
    exact hK' _ _ (inv_quiet hG hP hd hn hb hs)
  · rw [hg2] at h
    simp only at h
    have gen : ∀ (p : Bool), (∀ (y : SX) ν (B : Nat → Nat) a w, (∀ t ∈ o.looksAt ops, y.sf t = slot fr t) → GoodF { E with av := avP E B y.pend } ν y.sf y.rs a w → (yielded ops a.tmps j == some want) = p) → pureP (opv fr) hid p ioo.op (KgP p K) →
        ∃ s, K s ∧ ∀ y : SX, (∀ t ∈ o.looksAt ops, y.sf t = slot fr t) → subR hid y.rs → Sem E ops o (trQ o.dst s) y := by
      intro p hp h
      obtain ⟨s, hk, hY⟩ := pureP_sound his h
      refine ⟨.g p s, hk, fun y ha hr hn K' Q a w hI hK' => ?_⟩
      obtain ⟨ν, B, hG, hP⟩ := hI
      unfold runOp
      rw [wanted_val hg1, hp y ν B a w ha hG]
      cases hpp : p with
      | false =>
        rw [if_neg (by simp)]
        refine hK' _ _ ?_
        have := inv_quiet hG hP (y := undef) (s := .g p s) hd hn (Below.refl _ _) (den_skip hpp)
        exact this
      | true =>
        rw [if_pos rfl]
        refine .inl ((hY ν a w _ (subR_hr hr hG.rg.hr) (den_uses his ha hG.fr) hpp).yq K' Q fun v w' hb hs => ?_)
        have := inv_quiet hG hP (s := .g p s) hd hn hb (den_took hpp hs)
        exact hK' _ _ this
    have gval : ∀ (y : SX) ν (B : Nat → Nat) a w, (∀ t ∈ o.looksAt ops, y.sf t = slot fr t) → GoodF { E with av := avP E B y.pend } ν y.sf y.rs a w →
        (∀ b, slot fr s0 = .v (.bool b) → yielded ops a.tmps j = some b) ∧ (∀ q b, slot fr s0 = .g q (.v (.bool b)) → (q = true → yielded ops a.tmps j = some b) ∧ (q = false → yielded ops a.tmps j = none)) := by
      intro y ν B a w ha hG
      have hd' := hG.fr s0
      rw [ha s0 (looks_guard hg1 hs0)] at hd'
      exact guard_valF (sf := slot fr) hs0 hd'
    split at h
    · rename_i b hb
      exact gen _ (fun y ν B a w ha hG => by rw [(gval y ν B a w ha hG).1 b hb]; rfl) h
    · rename_i q b hb
      refine gen _ (fun y ν B a w ha hG => ?_) h
      have := (gval y ν B a w ha hG).2 q b hb
      cases hq : q with
      | true => rw [this.1 hq]; rfl
      | false => rw [this.2 hq]; rfl
    · exact h.elim

theorem pkE {av : Nat → Prop} : ∀ {pk : List Nat}, pkOK E pk → pkOK { E with av := av } pk
  | [], _ => trivial
  | _ :: _, h => ⟨h.1, pkE h.2⟩

/-- an effect -/
theorem semE {ops : Array Oper} {o : Oper} {io : IOp} {fr : List (Nat × C)} {rs : List Res} (hd : dstOK E.N o.dst = true) (his : Is E.P o.type o.op io) (hg : o.guard = none) {K : C → List Res → List Nat → Prop} (h : evE E (opv fr) rs io K) :
    ∃ s rs' pk, K s rs' pk ∧ ∀ (x : SX) ν B (K' : Act → World → Prop) (Q : Exit → Act → World → Prop) a w, pkOK E pk → (∀ t ∈ o.looksAt ops, x.sf t = slot fr t) → x.rs = rs → (∀ t p, x.pend t = some p → o.dst ≠ some t) →
      GoodF { E with av := avP E B x.pend } ν x.sf x.rs a w → PendOK E B x.pend a w → (∀ a' w', InvD E ⟨sput (fun t => (x.sf t).purge pk) o.dst s, rs', x.pend⟩ a' w' → K' a' w') → runOp E.P ops Q o K' a w := by
  obtain ⟨s, rs', pk, hk, hres⟩ := evE_sound his h
  refine ⟨s, rs', pk, hk, fun x ν B K' Q a w hpk ha hr hn hG hP hK' => ?_⟩
  unfold runOp
  rw [if_pos (by simp [Region.wanted, hg])]
  refine .inl (hres (avP E B x.pend) ν a w (by rw [← hr]; exact hG.rg) (fun b hb => .inl hb) hG.frm (by rw [← hr]; exact den_uses his ha hG.fr) K' Q fun v ν' w' hrg hm hs => ?_)
  rw [← hr] at hm
  refine hK' _ _ ⟨ν', B, GoodF.put (GoodF.mv hG hrg hm (pkE hpk)) hd hs, hP.put hG.size hd hn fun b hlt hbp => hm.block b hlt fun hown => ?_⟩
  obtain ⟨t, p, hp, rfl⟩ := hbp
  exact (hG.rg.low _ hown).2.1 (.inr ⟨t, p, hp, rfl⟩)

/-- a variable that was made becomes one of one's own -/
theorem adopt {x : SX} {B : Nat → Nat} {ta : Nat} {p : Pd} (hp : x.pend ta = some p) (hG : GoodF { E with av := avP E B x.pend } ν x.sf x.rs a w) (hP : PendOK E B x.pend a w) :
    GoodF { E with av := avP E B (fun t => if t = ta then none else x.pend t) } (ν ++ [.pointer (some ⟨B ta, 0, none⟩)]) (sput x.sf (some ta) (.bp x.rs.length 0)) (x.rs ++ [.box p.ty (p.zero.map .v)]) a w ∧
      PendOK E B (fun t => if t = ta then none else x.pend t) a w := by
  obtain ⟨c1, c2, c3, c4⟩ := hP.cell ta p hp
  have pend' : ∀ {t q}, (if t = ta then none else x.pend t) = some q → t ≠ ta ∧ x.pend t = some q := fun {t q} h => by
    split at h
    · cases h
    · rename_i hne; exact ⟨hne, h⟩
  have hlt : B ta < w.heap.size := (Array.getElem?_eq_some_iff.1 c2).1
  have hava : avP E B x.pend (B ta) := .inr ⟨ta, p, hp, rfl⟩
  have hav' : ∀ b, avP E B (fun t => if t = ta then none else x.pend t) b → avP E B x.pend b ∧ b ≠ B ta := by
    rintro b (hb | ⟨t, q, hq, rfl⟩)
    · exact ⟨.inl hb, fun e => by have := hP.av0 b hb; omega⟩
    · obtain ⟨h1, h2⟩ := pend' hq
      exact ⟨.inr ⟨t, q, h2, rfl⟩, hP.inj t ta q p h2 hp h1⟩
  have len := hG.rg.len
  have old : ∀ {k : Nat} {q : Res}, (x.rs ++ [.box p.ty (p.zero.map .v)])[k]? = some q → (k < x.rs.length ∧ x.rs[k]? = some q) ∨ (k = x.rs.length ∧ q = .box p.ty (p.zero.map .v)) := by
    intro k q hk
    rcases Nat.lt_or_ge k x.rs.length with h | hge
    · rw [List.getElem?_append_left h] at hk; exact .inl ⟨h, hk⟩
    · rw [List.getElem?_append_right hge] at hk
      have : k - x.rs.length = 0 := by
        rcases Nat.eq_zero_or_pos (k - x.rs.length) with h0 | h0
        · exact h0
        · rw [List.getElem?_eq_none (by simp; omega)] at hk; cases hk
      rw [this] at hk
      simp at hk
      exact .inr ⟨by omega, hk.symm⟩
  have vold : ∀ {k}, k < x.rs.length → (ν ++ [.pointer (some ⟨B ta, 0, none⟩)])[k]? = ν[k]? := fun hk => List.getElem?_append_left (by rw [len]; exact hk)
  have vnew : (ν ++ [.pointer (some ⟨B ta, 0, none⟩)])[x.rs.length]? = some (.pointer (some ⟨B ta, 0, none⟩)) := by rw [← len]; simp
  have own : ∀ b, owned (x.rs ++ [.box p.ty (p.zero.map .v)]) (ν ++ [.pointer (some ⟨B ta, 0, none⟩)]) b → owned x.rs ν b ∨ b = B ta := by
    rintro b ⟨k, q, y, hk, hy, hf⟩
    rcases old hk with ⟨h, hk'⟩ | ⟨rfl, rfl⟩
    · rw [vold h] at hy; exact .inl ⟨k, q, y, hk', hy, hf⟩
    · rw [vnew] at hy; injection hy with hy; subst hy
      simp only [fp, blockOf, Option.some.injEq] at hf
      exact .inr hf.symm
  have nu : NuLe [] ν (ν ++ [.pointer (some ⟨B ta, 0, none⟩)]) := fun k y _ hy => by
    rw [List.getElem?_append_left (List.getElem?_eq_some_iff.1 hy).1]; exact hy
  have hk : Keeps (OO (avP E B x.pend) x.rs ν) w (OO (avP E B (fun t => if t = ta then none else x.pend t)) (x.rs ++ [.box p.ty (p.zero.map .v)]) (ν ++ [.pointer (some ⟨B ta, 0, none⟩)])) w := by
    intro b hb hn
    refine ⟨hb, fun h' => ?_, rfl⟩
    rcases h' with h' | h'
    · exact hn (.inl (hav' b h').1)
    · rcases own b h' with h' | rfl
      · exact hn (.inr h')
      · exact hn (.inl hava)
  refine ⟨⟨hG.dfr, hG.size, fun t => ?_, ⟨by simp [len], fun k q hq => ?_, ?_, fun b ho => ?_, fun b hb => hG.rg.av b (hav' b hb).1, hG.rg.n0⟩, hG.frm, fun k x hk hx => nu k x (by simp) (hG.nu k x hk hx)⟩, ⟨fun t q hq => hP.cell t q (pend' hq).2, fun t t' q q' h h' => hP.inj t t' q q' (pend' h).2 (pend' h').2, hP.av0⟩⟩
  · simp only [sput]
    by_cases e : some ta = some t
    · rw [if_pos e]
      injection e with e
      subst e
      simp only [Den]
      exact ⟨B ta, vnew, c1⟩
    · rw [if_neg e]
      exact Den.nu nu (by simp) (Den.keep hk (hG.fr t))
  · rcases old hq with ⟨h, hq'⟩ | ⟨rfl, rfl⟩
    · obtain ⟨y, hy, hok⟩ := hG.rg.res k q hq'
      have := ResOK.mv (pk := []) hok hk nu fun b _ => rfl
      rw [purge_nil1] at this
      exact ⟨y, by rw [vold h]; exact hy, this⟩
    · exact ⟨_, vnew, B ta, p.zero, rfl, DenL.vs _, oneAll_spec c4, c2⟩
  · have half : ∀ (k : Nat) (q : Res) (y : Value) (b : Nat), x.rs[k]? = some q → ν[k]? = some y → fp q y b → b ≠ B ta := fun k q y b h1 h2 h3 e => (hG.rg.low b ⟨k, q, y, h1, h2, h3⟩).2.1 (by rw [e]; exact hava)
    intro k l q q' y y' b hne hk hl hy hy' hf hf'
    rcases old hk with ⟨h, hk'⟩ | ⟨rfl, rfl⟩
    · rw [vold h] at hy
      rcases old hl with ⟨h', hl'⟩ | ⟨rfl, rfl⟩
      · rw [vold h'] at hy'
        exact hG.rg.dis k l q q' y y' b hne hk' hl' hy hy' hf hf'
      · rw [vnew] at hy'; injection hy' with hy'; subst hy'
        simp only [fp, blockOf, Option.some.injEq] at hf'
        exact half k q y b hk' hy hf hf'.symm
    · rw [vnew] at hy; injection hy with hy; subst hy
      simp only [fp, blockOf, Option.some.injEq] at hf
      rcases old hl with ⟨h', hl'⟩ | ⟨rfl, rfl⟩
      · rw [vold h'] at hy'
        exact half l q' y' b hl' hy' hf' hf.symm
      · exact absurd rfl hne
  · rcases own b ho with h | rfl
    · obtain ⟨h1, h2, h3⟩ := hG.rg.low b h
      exact ⟨h1, fun h' => h2 (hav' b h').1, h3⟩
    · exact ⟨hlt, fun h' => (hav' _ h').2 rfl, .inr c3⟩

/-- a new variable -/
theorem semA {ops : Array Oper} {o : Oper} {ioo : IOper} {N : Nat} (hN : E.N = N) (hc : compOper E.P N ops o = some ioo) (hg : o.guard = none) {t ta : Nat} {zero : List Value} (hio : ioo.op = .alloc t zero) (hdd : o.dst = some ta) (hz : oneAll zero = true) (y : SX) : Sem E ops o (trA ta ⟨t, zero⟩) y := by
  obtain ⟨hd, his, hdst, _⟩ := compOper_spec hc
  rw [← hN] at hd
  rw [hio] at his
  intro hn K' Q a w hI hK'
  obtain ⟨ν, B, hG, hP⟩ := hI
  unfold runOp
  rw [if_pos (by simp [Region.wanted, hg])]
  refine .inl ?_
  have hno : y.pend ta = none := by
    cases hp : y.pend ta with
    | none => rfl
    | some p => exact absurd hdd (hn ta p hp)
  have hrun : (execOp a.eval o).run E.P w = .ok (.value (.pointer (some ⟨w.heap.size, 0, none⟩))) (w.alloc (.cells zero.toArray t)) := by
    obtain ⟨dst, op, ty, pos, after, guard⟩ := o
    simp only at his
    cases his with
    | alloc t i z hi hz' => simp [execOp, Instr.alloc, newVar, newRow, zeroValue, typeInfo, hi, hz']
  unfold Oper.wp
  rw [hrun]
  refine hK' _ _ ?_
  have hsz : w.heap.size < (w.alloc (.cells zero.toArray t)).heap.size := by simp
  have hB : ∀ {s q}, y.pend s = some q → B s < w.heap.size := fun h => (Array.getElem?_eq_some_iff.1 (hP.cell _ _ h).2.1).1
  have hG' : GoodF { E with av := avP E (fun s => if s = ta then w.heap.size else B s) (fun s => if s = ta then some ⟨t, zero⟩ else y.pend s) } ν y.sf y.rs a (w.alloc (.cells zero.toArray t)) := by
    refine GoodF.re hG (below_alloc w _) rfl rfl rfl rfl rfl rfl fun b hb => ?_
    rcases hb with hb | ⟨s, q, hq, rfl⟩
    · have h1 := hP.av0 b hb
      have h2 := hG.rg.n0
      exact ⟨.inl (.inl hb), Nat.lt_of_lt_of_le (Nat.lt_of_lt_of_le h1 h2) (Nat.le_of_lt hsz)⟩
    · simp only at hq ⊢
      by_cases e : s = ta
      · rw [if_pos e]; exact ⟨.inr (Nat.le_refl _), hsz⟩
      · rw [if_neg e] at hq ⊢
        exact ⟨.inl (.inr ⟨s, q, hq, rfl⟩), Nat.lt_trans (hB hq) hsz⟩
  have hput := GoodF.put hG' (d := o.dst) (s := .junk) (y := .pointer (some ⟨w.heap.size, 0, none⟩)) hd (by simp only [Den])
  have hstep : (trA ta ⟨t, zero⟩).step y = ⟨sput y.sf o.dst .junk, y.rs, fun s => if s = ta then some ⟨t, zero⟩ else y.pend s⟩ := by
    unfold trA TR.step
    simp only [Option.getD_none, SX.mk.injEq, true_and]
    refine ⟨funext fun s => ?_, funext fun s => ?_⟩
    · simp only [sput, hdd, Option.some.injEq]
      by_cases e : s = ta
      · rw [if_pos e, if_pos e.symm]; rfl
      · rw [if_neg e, if_neg (fun h => e h.symm)]; rfl
    · split <;> rfl
  rw [hstep]
  refine ⟨ν, _, hput, fun s q hq => ?_, fun s s' q q' hq hq' hne => ?_, hP.av0⟩
  · have hlt : ta < E.N := by rw [hdd] at hd; simpa [dstOK] using hd
    simp only at hq ⊢
    rw [hdd, put_get hG.size hlt]
    by_cases e : s = ta
    · rw [if_pos e] at hq
      injection hq with hq
      subst hq
      rw [if_pos e, if_pos e.symm]
      exact ⟨rfl, heap_alloc_new w _, hG.rg.n0, hz⟩
    · rw [if_neg e] at hq ⊢
      rw [if_neg (fun h => e h.symm)]
      obtain ⟨c1, c2, c3, c4⟩ := hP.cell s q hq
      exact ⟨c1, (Below.heap_alloc w _ _ (hB hq)).trans c2, c3, c4⟩
  · simp only at hq hq' ⊢
    by_cases e : s = ta
    · by_cases e' : s' = ta
      · exact absurd (e.trans e'.symm) hne
      · rw [if_neg e'] at hq'
        rw [if_pos e, if_neg e']
        have := hB hq'
        omega
    · rw [if_neg e] at hq
      by_cases e' : s' = ta
      · rw [if_neg e, if_pos e']
        have := hB hq
        omega
      · rw [if_neg e'] at hq'
        rw [if_neg e, if_neg e']
        exact hP.inj s s' q q' hq hq' hne
end
end Go.Proofs.YtaicmkocmnikjaaDoor.Eng
