/- Regions whose order is drawn: each operation is judged by itself, over all frames and worlds that what it looks at allows; one walk in the order of the text then serves every order. -/
import Derived.Test.YtaicmkocmnikjaaRun
namespace Go.Proofs.Ytaicmkocmnikjaa.Eng
set_option linter.all false
open Go Go.RowKit

section
variable {P : Program} {ops : Array Oper} {md : Region.Mode} {N : Nat} {C : World → Prop} {Q : Exit → Act → World → Prop}

/-- what is known of each temporary -/
abbrev Env := Nat → Value → World → Prop
def Env.upd (Ψ : Env) (d : Option Nat) (Φ : Value → World → Prop) : Env := fun t => if d = some t then Φ else Ψ t
def Stab (Φ : Value → World → Prop) : Prop := ∀ y w w', Φ y w → Below w.heap.size w w' → Φ y w'
def Fits (Ψ : Env) (a : Act) (w : World) : Prop := ∀ t, Ψ t (a.tmps.getD t undef) w

def JOp (P : Program) (ops : Array Oper) (N : Nat) (C : World → Prop) (Q : Exit → Act → World → Prop) (o : Oper) (Ψ : Env) (Φ : Value → World → Prop) : Prop :=
  ∀ a w, C w → a.defers = [] → a.tmps.size = N → (∀ t ∈ o.looksAt ops, Ψ t (a.tmps.getD t undef) w) →
    (Region.wanted o (yielded ops a.tmps) = true → ∀ K : Act → World → Prop, (∀ y w', Below w.heap.size w w' → Φ y w' → K (a.put o.dst y) w') → o.wp P a w K Q) ∧
    (Region.wanted o (yielded ops a.tmps) = false → Φ undef w)

def JEnd (N : Nat) (C : World → Prop) (Q : Exit → Act → World → Prop) (Ψ : Env) : Prop := ∀ a w, C w → a.defers = [] → a.tmps.size = N → Fits Ψ a w → Q .normal a w

def JAny (P : Program) (md : Region.Mode) (ops : Array Oper) (N : Nat) (C : World → Prop) (Q : Exit → Act → World → Prop) : Nat → Array Bool → Env → Prop
  | 0, listed, Ψ => Region.ready md ops listed = [] ∧ JEnd N C Q Ψ
  | fuel + 1, listed, Ψ => (Region.ready md ops listed = [] → JEnd N C Q Ψ) ∧
    ∀ i ∈ Region.ready md ops listed, ∀ o, ops[i]? = some o → ∃ Φ, Stab Φ ∧ JOp P ops N C Q o Ψ Φ ∧ JAny P md ops N C Q fuel (listed.setIfInBounds i true) (Ψ.upd o.dst Φ)

theorem Env.upd_stab {Ψ : Env} {d : Option Nat} {Φ : Value → World → Prop} (h : ∀ t, Stab (Ψ t)) (h' : Stab Φ) : ∀ t, Stab (Ψ.upd d Φ t) := by
  intro t
  unfold Env.upd
  split
  · exact h'
  · exact h t
theorem Fits.put {Ψ : Env} {d : Option Nat} {Φ : Value → World → Prop} {a : Act} {w w' : World} {y : Value} (hs : ∀ t, Stab (Ψ t)) (h : Fits Ψ a w) (hb : Below w.heap.size w w') (hd : dstOK N d = true) (hN : a.tmps.size = N) (hy : Φ y w') :
    Fits (Ψ.upd d Φ) (a.put d y) w' := by
  intro t
  unfold Env.upd
  cases d with
  | none => rw [if_neg (by intro e; cases e)]; exact hs t _ _ _ (h t) hb
  | some d =>
    have hlt : d < N := by simpa [dstOK] using hd
    by_cases e : d = t
    · subst e
      rw [if_pos rfl]
      have : (a.put (some d) y).tmps.getD d undef = y := by
        have hl : d < a.tmps.size := by rw [hN]; exact hlt
        simp [Act.put, hl]
      rw [this]
      exact hy
    · rw [if_neg (by intro h; injection h with h; exact e h)]
      have : (a.put (some d) y).tmps.getD t undef = a.tmps.getD t undef := by
        simp [Act.put, Array.getElem?_setIfInBounds_ne e]
      rw [this]
      exact hs t _ _ _ (h t) hb

theorem put_defers' (a : Act) (d : Option Nat) (y : Value) : (a.put d y).defers = a.defers := by cases d <;> rfl
theorem put_size' (a : Act) (d : Option Nat) (y : Value) : (a.put d y).tmps.size = a.tmps.size := by cases d <;> simp [Act.put]

theorem jany_wp (hC : ∀ w w', C w → Below w.heap.size w w' → C w') (hd : ∀ (i : Nat) (o : Oper), ops[i]? = some o → dstOK N o.dst = true) : ∀ (fuel : Nat) (listed : Array Bool) (Ψ : Env) (a : Act) (w : World),
    JAny P md ops N C Q fuel listed Ψ → (∀ t, Stab (Ψ t)) → C w → a.defers = [] → a.tmps.size = N → Fits Ψ a w → wpAny P md ops Q fuel listed a w
  | 0, listed, Ψ, a, w, h, hs, hw, h1, h2, h3 => ⟨h.1, h.2 a w hw h1 h2 h3⟩
  | fuel + 1, listed, Ψ, a, w, h, hs, hw, h1, h2, h3 => by
    refine ⟨fun h0 => h.1 h0 a w hw h1 h2 h3, fun i hi => ?_⟩
    unfold wpOp
    obtain ⟨_, o, ho, _⟩ := mem_ready.1 hi
    simp only [ho]
    obtain ⟨Φ, hst, hj, hrest⟩ := h.2 i hi o ho
    obtain ⟨j1, j2⟩ := hj a w hw h1 h2 (fun t _ => h3 t)
    cases hwd : Region.wanted o (yielded ops a.tmps) with
    | true =>
      rw [if_pos rfl]
      refine .inl (j1 hwd _ fun y w' hb hy => ?_)
      exact jany_wp hC hd fuel _ _ _ _ hrest (Env.upd_stab hs hst) (hC w w' hw hb) (by rw [put_defers']; exact h1) (by rw [put_size']; exact h2) (Fits.put hs h3 hb (hd i o ho) h2 hy)
    | false =>
      rw [if_neg (by simp)]
      exact jany_wp hC hd fuel _ _ _ _ hrest (Env.upd_stab hs hst) hw (by rw [put_defers']; exact h1) (by rw [put_size']; exact h2) (Fits.put hs h3 (Below.refl _ _) (hd i o ho) h2 (j2 hwd))

/-- what an operation does not look at makes no difference to it -/
theorem JOp.upd {o : Oper} {Ψ : Env} {Φ Φ' : Value → World → Prop} {d : Option Nat} (h : ∀ t, d = some t → t ∉ o.looksAt ops) : JOp P ops N C Q o (Ψ.upd d Φ') Φ ↔ JOp P ops N C Q o Ψ Φ := by
  have key : ∀ (a : Act) (w : World), (∀ t ∈ o.looksAt ops, Ψ.upd d Φ' t (a.tmps.getD t undef) w) ↔ (∀ t ∈ o.looksAt ops, Ψ t (a.tmps.getD t undef) w) := by
    intro a w
    constructor
    · intro hh t ht
      have := hh t ht
      unfold Env.upd at this
      rwa [if_neg (fun e => h t e ht)] at this
    · intro hh t ht
      unfold Env.upd
      rw [if_neg (fun e => h t e ht)]
      exact hh t ht
  unfold JOp
  constructor
  · intro hh a w hw h1 h2 h3
    exact hh a w hw h1 h2 ((key a w).2 h3)
  · intro hh a w hw h1 h2 h3
    exact hh a w hw h1 h2 ((key a w).1 h3)

theorem Env.upd_comm {Ψ : Env} {d e : Option Nat} {Φ Φ' : Value → World → Prop} (h : ∀ t, d = some t → e ≠ some t) : (Ψ.upd d Φ).upd e Φ' = (Ψ.upd e Φ').upd d Φ := by
  funext t
  unfold Env.upd
  by_cases h1 : d = some t
  · rw [if_neg (h t h1), if_pos h1, if_pos h1]
  · rw [if_neg h1, if_neg h1]

theorem jany_first {i : Nat} {oi : Oper} {Φ : Value → World → Prop} (hi : ops[i]? = some oi) (hst : Stab Φ) :
    ∀ (fuel : Nat) (listed : Array Bool) (Ψ : Env),
      (∀ j oj, ops[j]? = some oj → j ≠ i → listed.getD j true = false → (∀ e ∈ oj.after, Region.binds md e = true → e.on ≠ i) → oi.apart ops oj = true) →
      i ∈ Region.ready md ops listed → JOp P ops N C Q oi Ψ Φ →
      JAny P md ops N C Q fuel (listed.setIfInBounds i true) (Ψ.upd oi.dst Φ) → JAny P md ops N C Q (fuel + 1) listed Ψ := by
  intro fuel
  induction fuel with
  | zero =>
    intro listed Ψ _ hr hy H
    refine ⟨fun h => (by rw [h] at hr; cases hr), fun j hj oj hoj => ?_⟩
    by_cases hji : j = i
    · subst hji
      rw [hi] at hoj
      injection hoj with hoj
      subst hoj
      exact ⟨Φ, hst, hy, H⟩
    · have := ready_mono hj hji
      rw [H.1] at this
      cases this
  | succ fuel ih =>
    intro listed Ψ hfree hr hy H
    refine ⟨fun h => (by rw [h] at hr; cases hr), fun j hj oj hoj => ?_⟩
    by_cases hji : j = i
    · subst hji
      rw [hi] at hoj
      injection hoj with hoj
      subst hoj
      exact ⟨Φ, hst, hy, H⟩
    · obtain ⟨Φj, hstj, h1, h2⟩ := H.2 j (ready_mono hj hji) oj hoj
      obtain ⟨hjun, oj', hoj', hall⟩ := mem_ready.1 hj
      rw [hoj] at hoj'
      injection hoj' with hoj'
      subst hoj'
      have hnot : ∀ e ∈ oj.after, Region.binds md e = true → e.on ≠ i := fun e he hb heq => by
        have h1 := hall e he hb
        have h0 := (mem_ready.1 hr).1
        rw [heq] at h1
        rcases Nat.lt_or_ge i listed.size with h' | h'
        · simp [h'] at h0 h1; rw [h0] at h1; cases h1
        · simp [Array.getElem?_eq_none h'] at h1
      obtain ⟨p1, p2, p3⟩ := Oper.apart_spec (hfree j oj hoj hji hjun hnot)
      have hfree' : ∀ k ok, ops[k]? = some ok → k ≠ i → (listed.setIfInBounds j true).getD k true = false →
          (∀ e ∈ ok.after, Region.binds md e = true → e.on ≠ i) → oi.apart ops ok = true := fun k ok hk hki hun hno => by
        refine hfree k ok hk hki ?_ hno
        by_cases hjk : j = k
        · subst hjk; exact hjun
        · rw [getD_set_ne true hjk] at hun; exact hun
      refine ⟨Φj, hstj, (JOp.upd p1).1 h1, ih (listed.setIfInBounds j true) _ hfree' (ready_mono hr (Ne.symm hji)) ((JOp.upd p3).2 hy) ?_⟩
      rw [Array.setIfInBounds_comm _ _ hji, ← Env.upd_comm p2]
      exact h2

/-- the walk in the order of the text -/
def JLex (P : Program) (ops : Array Oper) (N : Nat) (C : World → Prop) (Q : Exit → Act → World → Prop) : List Oper → Env → Prop
  | [], Ψ => JEnd N C Q Ψ
  | o :: l, Ψ => ∃ Φ, Stab Φ ∧ JOp P ops N C Q o Ψ Φ ∧ JLex P ops N C Q l (Ψ.upd o.dst Φ)

theorem jany_lex : ∀ (l : List Oper) (k : Nat) (listed : Array Bool) (Ψ : Env), (∀ j, l[j]? = ops[k + j]?) →
    Region.lexFrom md ops l.length k listed = true → JLex P ops N C Q l Ψ → JAny P md ops N C Q l.length listed Ψ
  | [], _, _, _, _, hB, h => ⟨by simpa [Region.lexFrom] using hB, h⟩
  | o :: l, k, listed, Ψ, hl, hB, h => by
    have h0 : ops[k]? = some o := by simpa using (hl 0).symm
    simp only [List.length_cons, Region.lexFrom, Bool.and_eq_true] at hB
    obtain ⟨⟨hr, hf⟩, hB'⟩ := hB
    obtain ⟨Φ, hst, hj, hK⟩ := h
    exact jany_first h0 hst l.length listed Ψ (Region.free_spec h0 hf) (by simpa using hr) hj
      (jany_lex l (k + 1) _ _ (fun j => by have := hl (j + 1); simpa [Nat.add_assoc, Nat.add_comm 1 j] using this) hB' hK)

theorem wp_region_lex {id : Nat} {a : Act} {w : World} {Ψ : Env} (hm : P.follows .mixedOrders = true) (hB : Region.lexB .any ops = true)
    (hC : ∀ w w', C w → Below w.heap.size w w' → C w') (hd : ∀ (i : Nat) (o : Oper), ops[i]? = some o → dstOK N o.dst = true) (hs : ∀ t, Stab (Ψ t))
    (hw : C w.drew) (h1 : a.defers = []) (h2 : a.tmps.size = N) (h3 : Fits Ψ a w.drew) (h : JLex P ops N C Q ops.toList Ψ) : (Code.region id ops true).wp P Q a w := by
  simp only [Region.lexB, Bool.and_eq_true] at hB
  refine wp_region_any hm (jany_wp hC hd _ _ Ψ a _ ?_ hs hw h1 h2 h3)
  have := jany_lex (P := P) (N := N) (C := C) (Q := Q) (md := .any) ops.toList 0 (Array.replicate ops.size false) Ψ (by simp) (by simpa using hB.2) h
  simpa using this
end

/-! ## The walk over a symbolic state -/
section
variable {E : Ctx}

theorem fresh_stab (b : Nat) : ∀ (s : SV) {y : Value} {w w' : World}, Fresh b w s y → Below w.heap.size w w' → Fresh b w' s y
  | .fs sz n at_, y, w, w', h, hb => by
    simp only [Fresh] at h ⊢
    obtain ⟨A, c, h1, h2, h3, h4, h5⟩ := h
    refine ⟨A, c, h1, h2, h3, h4, fun h0 => ?_⟩
    obtain ⟨ad, e, hS, hc⟩ := h5 h0
    refine ⟨ad, e, ⟨hS.1, Nat.lt_of_lt_of_le hS.2 hb.size⟩, fun i hi j v hv => ?_⟩
    rw [← hc i hi j v hv]
    have hbl : (ad.add (i * sz + j)).block = ad.block := by unfold Addr.add; split <;> rfl
    exact World.cell?_of_block (by rw [hbl]; exact hb.block _ hS.2)
  | .g p s, y, w, w', h, hb => by
    simp only [Fresh] at h ⊢
    exact fun hp => fresh_stab b s (h hp) hb
  | .v _, _, _, _, _, _ => by simp only [Fresh]
  | .agg _, _, _, _, _, _ => by simp only [Fresh]
  | .tup _, _, _, _, _, _ => by simp only [Fresh]
  | .bp _ _, _, _, _, _, _ => by simp only [Fresh]
  | .rv _, _, _, _, _, _ => by simp only [Fresh]
  | .rp _ _, _, _, _, _, _ => by simp only [Fresh]
  | .sl _, _, _, _, _, _ => by simp only [Fresh]
  | .ep _ _ _, _, _, _, _, _ => by simp only [Fresh]
  | .clo _ _, _, _, _, _, _ => by simp only [Fresh]
  | .junk, _, _, _, _, _ => by simp only [Fresh]

theorem fresh_mono {b b' : Nat} (hb : b' ≤ b) : ∀ (s : SV) {y : Value} {w : World}, Fresh b w s y → Fresh b' w s y
  | .fs sz n at_, y, w, h => by
    simp only [Fresh] at h ⊢
    obtain ⟨A, c, h1, h2, h3, h4, h5⟩ := h
    refine ⟨A, c, h1, h2, h3, h4, fun h0 => ?_⟩
    obtain ⟨ad, e, hS, hc⟩ := h5 h0
    exact ⟨ad, e, ⟨Nat.le_trans hb hS.1, hS.2⟩, hc⟩
  | .g p s, y, w, h => by
    simp only [Fresh] at h ⊢
    exact fun hp => fresh_mono hb s (h hp)
  | .v _, _, _, _ => by simp only [Fresh]
  | .agg _, _, _, _ => by simp only [Fresh]
  | .tup _, _, _, _ => by simp only [Fresh]
  | .bp _ _, _, _, _ => by simp only [Fresh]
  | .rv _, _, _, _ => by simp only [Fresh]
  | .rp _ _, _, _, _ => by simp only [Fresh]
  | .sl _, _, _, _ => by simp only [Fresh]
  | .ep _ _ _, _, _, _ => by simp only [Fresh]
  | .clo _ _, _, _, _ => by simp only [Fresh]
  | .junk, _, _, _ => by simp only [Fresh]

/-- what the state says of the temporaries -/
def envOf (ν : List Value) (sl : List Sli) (b : Nat) (fr : List (Nat × SV)) : Env := fun t y w => Den ν sl (slot fr t) y ∧ Fresh b w (slot fr t) y

theorem envOf_stab (ν : List Value) (sl : List Sli) (b : Nat) (fr : List (Nat × SV)) (t : Nat) : Stab (envOf ν sl b fr t) := fun _ _ _ h hb => ⟨h.1, fresh_stab b _ h.2 hb⟩
theorem envOf_put (ν : List Value) (b : Nat) (st : St) (d : Option Nat) (s : SV) : (envOf ν st.sl b st.fr).upd d (fun y w => Den ν st.sl s y ∧ Fresh b w s y) = envOf ν (st.put d s).sl b (st.put d s).fr := by
  funext t
  unfold Env.upd envOf
  cases d with
  | none => simp [St.put]
  | some d =>
    simp only [St.put, slot_put, Option.some.injEq]
    by_cases e : d = t
    · rw [if_pos e, if_pos e]
    · rw [if_neg e, if_neg e]

/-- a frame that agrees with a where it is looked at, and with a0 elsewhere -/
def mix (l : List Nat) (a a0 : Act) : Act := { tmps := Array.ofFn (n := a.tmps.size) fun t => if t.val ∈ l then a.tmps.getD t.val undef else a0.tmps.getD t.val undef, defers := [] }
theorem mix_get {l : List Nat} {a a0 : Act} (hs : a0.tmps.size = a.tmps.size) (t : Nat) : (mix l a a0).tmps.getD t undef = if t ∈ l then a.tmps.getD t undef else a0.tmps.getD t undef := by
  unfold mix
  simp only
  by_cases h : t < a.tmps.size
  · have : (Array.ofFn (n := a.tmps.size) fun t => if t.val ∈ l then a.tmps.getD t.val undef else a0.tmps.getD t.val undef)[t]? = some (if t ∈ l then a.tmps.getD t undef else a0.tmps.getD t undef) := by
      rw [Array.getElem?_eq_getElem (by simpa using h)]
      simp [h]
    rw [Array.getD_eq_getD_getElem?, this]
    rfl
  · have h1 : (Array.ofFn (n := a.tmps.size) fun t => if t.val ∈ l then a.tmps.getD t.val undef else a0.tmps.getD t.val undef)[t]? = none := Array.getElem?_eq_none (by simp; omega)
    have h2 : a.tmps[t]? = none := Array.getElem?_eq_none (by omega)
    have h3 : a0.tmps[t]? = none := Array.getElem?_eq_none (by omega)
    rw [Array.getD_eq_getD_getElem?, Array.getD_eq_getD_getElem?, Array.getD_eq_getD_getElem?, h1, h2, h3]
    split <;> rfl
theorem mix_exec {ops : Array Oper} {o : Oper} {a a0 : Act} (hs : a0.tmps.size = a.tmps.size) (hn : ∀ cs b, o.op ≠ .select cs b) : execOp (mix (o.looksAt ops) a a0).eval o = execOp a.eval o := by
  refine execOp_congr o hn fun x hx => ?_
  cases x with
  | tmp t =>
    show (mix (o.looksAt ops) a a0).tmps.getD t undef = a.tmps.getD t undef
    rw [mix_get hs, if_pos]
    exact List.mem_append_left _ (List.mem_filterMap.2 ⟨.tmp t, by simpa using hx, rfl⟩)
  | const v => rfl
  | global g => rfl
  | func f => rfl
theorem mix_yielded {ops : Array Oper} {o : Oper} {a a0 : Act} {j : Nat} {want : Bool} (hs : a0.tmps.size = a.tmps.size) (hg : o.guard = some (j, want)) : yielded ops (mix (o.looksAt ops) a a0).tmps j = yielded ops a.tmps j := by
  unfold yielded
  cases ht : (ops[j]?).bind (·.dst) with
  | none => rfl
  | some t =>
    have hm : t ∈ o.looksAt ops := by simp [Oper.looksAt, hg, ht]
    have := mix_get (l := o.looksAt ops) (a := a) hs t
    rw [if_pos hm, Array.getD_eq_getD_getElem?, Array.getD_eq_getD_getElem?] at this
    simp only [Option.bind_some]
    have hsz : (mix (o.looksAt ops) a a0).tmps.size = a.tmps.size := by simp [mix]
    rcases Nat.lt_or_ge t a.tmps.size with hlt | hge
    · rw [Array.getElem?_eq_getElem (by rw [hsz]; exact hlt), Array.getElem?_eq_getElem hlt] at this ⊢
      simp at this
      rw [this]
    · rw [Array.getElem?_eq_none (by rw [hsz]; exact hge), Array.getElem?_eq_none hge]
theorem Good.mix {ν : List Value} {st : St} {a a0 : Act} {w : World} {l : List Nat} (h : Good E ν st a0 w) (hs : a0.tmps.size = a.tmps.size) (hl : ∀ t ∈ l, Den ν st.sl (slot st.fr t) (a.tmps.getD t undef)) : Good E ν st (Eng.mix l a a0) w := by
  refine ⟨rfl, ?_, fun t => ?_, h.len, h.fx, h.res, h.dis, h.below, h.hB, h.sn, h.snd, h.sls⟩
  · have := h.size
    simp [Eng.mix]
    omega
  · rw [mix_get hs]
    split
    · rename_i hm; exact hl t hm
    · exact h.fr t
theorem Good.frame {ν : List Value} {st : St} {a a0 : Act} {w : World} {fr : List (Nat × SV)} (h : Good E ν st a0 w) (h1 : a.defers = []) (hs : a.tmps.size = E.N) (hl : ∀ t, Den ν st.sl (slot fr t) (a.tmps.getD t undef)) : Good E ν { st with fr := fr } a w :=
  ⟨h1, hs, hl, h.len, h.fx, h.res, h.dis, h.below, h.hB, h.sn, h.snd, h.sls⟩

theorem slot_clr : ∀ (fr : List (Nat × SV)) (t : Nat), slot (clrFs fr) t = noFs (slot fr t)
  | [], t => rfl
  | (u, s) :: r, t => by
    show slot ((u, noFs s) :: clrFs r) t = noFs (slot ((u, s) :: r) t)
    rw [slot_put, slot_put, slot_clr r t]
    split <;> rfl
theorem Good.clr {ν : List Value} {st : St} {a : Act} {w : World} (h : Good E ν st a w) : Good E ν st.clr a w := h.frame h.dfr h.size fun t => by rw [slot_clr]; exact den_noFs (h.fr t)

/-- what an operation does from every frame and world that what it looks at allows -/
def OpRes (E : Ctx) (ops : Array Oper) (ν : List Value) (st : St) (w : World) (o : Oper) (s : SV) : Prop :=
  ∀ a w', Below w.heap.size w w' → a.tmps.size = E.N → (∀ t ∈ o.looksAt ops, envOf ν st.sl w.heap.size st.fr t (a.tmps.getD t undef) w') →
    ∀ (K : Act → World → Prop) (Q : Exit → Act → World → Prop), (∀ y w'', Below w'.heap.size w' w'' → Den ν st.sl s y → Fresh w.heap.size w'' s y → K (a.put o.dst y) w'') → o.wp E.P a w' K Q

variable {ν : List Value} {st : St} {a0 : Act} {w : World} {ops : Array Oper} {o : Oper}

theorem strip_fresh {b : Nat} {w : World} {p : Bool} {s : SV} {y : Value} (hp : p = true) (hr : req p s) (h : Fresh b w s y) : Fresh b w (strip s) y := by
  cases s <;> first | exact h | (simp only [Fresh, req, strip] at *; exact h (hr hp))
theorem looks_op {o : Oper} {t : Nat} (h : Operand.tmp t ∈ o.op.operands) : t ∈ o.looksAt ops := List.mem_append_left _ (List.mem_filterMap.2 ⟨.tmp t, by simpa using h, rfl⟩)
theorem fresh_opv {a : Act} {w' : World} {b : Nat} {x : Operand} (hx : x ∈ o.op.operands) (hl : ∀ t ∈ o.looksAt ops, envOf ν st.sl b st.fr t (a.tmps.getD t undef) w') : Fresh b w' (opv st x) (a.eval x) := by
  cases x with
  | tmp t => exact (hl t (looks_op hx)).2
  | const v => simp only [Eng.opv, Fresh]
  | global g => simp only [Eng.opv, Fresh]
  | func f => simp only [Eng.opv, Fresh]

theorem pure_res {io : IOp} {p : Bool} {K1 : SV → Prop} (his : Is E.P o.type o.op io) (hn : ∀ cs b, o.op ≠ .select cs b) (hp : p = true) (h : pureP st p io K1) (hG0 : Good E ν st a0 w) :
    ∃ s y0, K1 s ∧ Den ν st.sl s y0 ∧ OpRes E ops ν st w o (noFs s) := by
  obtain ⟨s, hs, hy⟩ := pureP_sound his h
  obtain ⟨y0, hd0, _⟩ := hy ν a0 w hG0 hp
  refine ⟨s, y0, hs, hd0, fun a w' hb hN hl K Q hK => ?_⟩
  have hsz : a0.tmps.size = a.tmps.size := by rw [hG0.size, hN]
  obtain ⟨y, hd, hrun⟩ := hy ν _ w' ((hG0.below_ hb).mix (l := o.looksAt ops) hsz fun t ht => (hl t ht).1) hp
  have := hrun w' (Below.refl _ _)
  rw [mix_exec hsz hn] at this
  unfold Oper.wp
  rw [this]
  exact hK y w' (Below.refl _ _) (den_noFs hd) (fresh_noFs _ _ _ _)

theorem mv_res {x : Operand} {p : Bool} (his : Is E.P o.type o.op (.mv x)) (hp : p = true) (hr : req p (opv st x)) (hG0 : Good E ν st a0 w) :
    ∃ y0, Den ν st.sl (strip (opv st x)) y0 ∧ OpRes E ops ν st w o (strip (opv st x)) := by
  refine ⟨_, strip_den hp hr (hG0.opv x), fun a w' hb hN hl K Q hK => ?_⟩
  have hsz : a0.tmps.size = a.tmps.size := by rw [hG0.size, hN]
  obtain ⟨dst, op, ty, pos, after, guard⟩ := o
  simp only at his
  have key : ∀ (op : Op), Op.operands op = #[x] → (∀ ρ : Operand → Value, (execOp ρ ⟨dst, op, ty, pos, after, guard⟩).run E.P w' = .ok (.value (ρ x)) w') → (∀ t ∈ Oper.looksAt ops ⟨dst, op, ty, pos, after, guard⟩, envOf ν st.sl w.heap.size st.fr t (a.tmps.getD t undef) w') →
      (∀ y w'', Below w'.heap.size w' w'' → Den ν st.sl (strip (opv st x)) y → Fresh w.heap.size w'' (strip (opv st x)) y → K (a.put dst y) w'') → Oper.wp E.P ⟨dst, op, ty, pos, after, guard⟩ a w' K Q := by
    intro op hop hrun hl hK
    have hG := (hG0.below_ hb).mix (l := Oper.looksAt ops ⟨dst, op, ty, pos, after, guard⟩) hsz fun t ht => (hl t ht).1
    have hx : x ∈ (Oper.op ⟨dst, op, ty, pos, after, guard⟩).operands := by rw [hop]; simp
    have he : (mix (Oper.looksAt ops ⟨dst, op, ty, pos, after, guard⟩) a a0).eval x = a.eval x := by
      cases x with
      | tmp t =>
        show (mix _ a a0).tmps.getD t undef = a.tmps.getD t undef
        rw [mix_get hsz, if_pos (looks_op (by rw [hop]; simp))]
      | const v => rfl
      | global g => rfl
      | func f => rfl
    unfold Oper.wp
    rw [hrun]
    refine hK _ w' (Below.refl _ _) ?_ ?_
    · have := strip_den hp hr (hG.opv x)
      rwa [he] at this
    · exact strip_fresh hp hr (fresh_opv hx hl)
  cases his with
  | mv => exact key (.move x) rfl (fun ρ => rfl) hl hK
  | asg => exact key (.assign x) rfl (fun ρ => rfl) hl hK

/-- an operation on a fresh slice alone, as on a readable one -/
theorem fs_res {io : IOp} {x : Operand} {p : Bool} {sz n : Nat} {at_ : Nat → List Value} {r : Value} (his : Is E.P o.type o.op io) (hn : ∀ cs b, o.op ≠ .select cs b) (hp : p = true) (hr : req p (opv st x)) (hx : x ∈ o.op.operands)
    (hs : strip (opv st x) = .fs sz n at_) (h : ∀ (t : Nat) (q : Sli), x = .tmp t → q.n = n → q.sz = sz → q.at_ = at_ → ∀ sn, pureP ⟨[(t, .sl 0)], [], [q], sn⟩ true io fun s => s = .v r) (hG0 : Good E ν st a0 w) :
    OpRes E ops ν st w o (.v r) := by
  intro a w' hb hN hl K Q hK
  have hf := strip_fresh hp hr (fresh_opv hx hl)
  rw [hs] at hf
  cases x with
  | tmp t =>
    simp only [Fresh] at hf
    have hG : Good ⟨E.P, a.tmps.size, 0, w', none⟩ [] ⟨[(t, .sl 0)], [], [⟨0, a.eval (.tmp t), n, sz, at_⟩], [⟨fun c => w.heap.size ≤ c ∧ c < w'.heap.size, w'⟩]⟩ { a with defers := [] } w' := by
      refine ⟨rfl, rfl, fun u => ?_, rfl, (fun _ h => by cases h), ?_, ?_, Below.refl _ _, Nat.zero_le _, ?_, ?_, ?_⟩
      · show Den _ _ (slot [(t, .sl 0)] u) _
        rw [slot_put]
        split
        · rename_i e; subst e; simp only [Den]; exact ⟨_, rfl, rfl⟩
        · simp only [slot, Den]
      · intro k r hk; simp at hk
      · intro k l r r' x x' b _ hk; simp at hk
      · intro s hs; simp at hs; subst hs; exact fun b hb => ⟨hb.2, rfl⟩
      · intro s hs k r x b hk; simp at hk
      · intro s hs; simp at hs; subst hs; exact ⟨_, rfl, hf⟩
    obtain ⟨s, rfl, hy⟩ := pureP_sound (E := ⟨E.P, a.tmps.size, 0, w', none⟩) his (h t ⟨0, a.eval (.tmp t), n, sz, at_⟩ rfl rfl rfl rfl [⟨fun c => w.heap.size ≤ c ∧ c < w'.heap.size, w'⟩])
    obtain ⟨y, hd, hrun⟩ := hy [] _ w' hG rfl
    have hrun := hrun w' (Below.refl _ _)
    unfold Oper.wp
    have he : execOp ({ a with defers := [] } : Act).eval o = execOp a.eval o := rfl
    rw [he] at hrun
    rw [hrun]
    simp only [Den] at hd
    subst hd
    exact hK _ w' (Below.refl _ _) (by simp only [Den]) (by simp only [Fresh])
  | const v => simp only [Eng.opv, strip] at hs; cases hs
  | global g => simp only [Eng.opv, strip] at hs; cases hs
  | func f => simp only [Eng.opv, strip] at hs; cases hs

theorem call_res {f : Nat} {args : List Operand} {p : Bool} {K1 : SV → Prop} (his : Is E.P o.type o.op (.call f args)) (hp : p = true) (h1 : argsR p st args) (h : CallQ E st p f (argsV st args) K1) (hG0 : Good E ν st a0 w) :
    ∃ s y0, K1 s ∧ Den ν st.sl s y0 ∧ OpRes E ops ν st w o s := by
  obtain ⟨s, y0, hd0, hk, hc⟩ := h
  refine ⟨s, y0, hk, hd0 _ _, fun a w' hb hN hl K Q hK => ?_⟩
  have hsz : a0.tmps.size = a.tmps.size := by rw [hG0.size, hN]
  obtain ⟨dst, op, ty, pos, after, guard⟩ := o
  simp only at his
  cases his with
  | call c f hcc hcl =>
    unfold Oper.wp
    rw [exec_call hcc, run_callFunc_ok hcl]
    have hG := (hG0.below_ hb).mix (l := Oper.looksAt ops ⟨dst, .call c, ty, pos, after, guard⟩) hsz fun t ht => (hl t ht).1
    have mem : ∀ x ∈ c.args.toList, x ∈ (Op.call c).operands := fun x hx => by
      simp only [Op.operands, Call.operands]
      cases hcal : c.callee <;> simp <;> first | exact Or.inr (by simpa using hx) | exact (by simpa using hx)
    have he : ∀ x ∈ c.args.toList, (mix (Oper.looksAt ops ⟨dst, .call c, ty, pos, after, guard⟩) a a0).eval x = a.eval x := fun x hx => by
      cases x with
      | tmp t =>
        show (mix _ a a0).tmps.getD t undef = a.tmps.getD t undef
        rw [mix_get hsz, if_pos (looks_op (mem _ hx))]
      | const v => rfl
      | global g => rfl
      | func f => rfl
    have hD := argsV_den hG hp h1
    rw [List.map_congr_left he] at hD
    have hF : FreshL 0 w' (argsV st c.args.toList) (c.args.toList.map a.eval) := by
      have gen : ∀ (l : List Operand), argsR p st l → (∀ x ∈ l, x ∈ (Op.call c).operands) → FreshL 0 w' (argsV st l) (l.map a.eval) := by
        intro l
        induction l with
        | nil => intro _ _; simp only [argsV, List.map_nil, FreshL]
        | cons x l ih =>
          intro hr hm
          simp only [argsV, List.map_cons, FreshL]
          exact ⟨fresh_mono (Nat.zero_le _) _ (strip_fresh hp hr.1 (fresh_opv (o := ⟨dst, .call c, ty, pos, after, guard⟩) (hm x (List.mem_cons_self ..)) hl)), ih hr.2 fun y hy => hm y (List.mem_cons_of_mem _ hy)⟩
      exact gen _ h1 mem
    refine (hc ν _ w' _ hG.noFr (fun _ => ⟨hD, hF⟩) hp).mono ?_
    rintro e w'' ⟨y, rfl, hy, hf, hbl⟩
    exact hK y w'' hbl (hy _ _) (fresh_mono hb.size _ hf)

theorem is_toStr_mem {P : Program} {ty : TypeId} {op : Op} {x : Operand} (h : Is P ty op (.toStr x)) : x ∈ op.operands := by
  cases h <;> simp [Op.operands]
theorem is_len_mem {P : Program} {ty : TypeId} {op : Op} {x : Operand} (h : Is P ty op (.len false x)) : x ∈ op.operands := by
  cases h with
  | lenL c t e _ hc hat ha ht =>
    simp only [Op.operands, Call.operands, hc]
    have : x ∈ c.args.toList := by rw [ha]; simp
    simpa using this

theorem evDp_sound {io : IOp} {pg : Option Bool} {K1 : SV → Prop} (his : Is E.P o.type o.op io) (hn : ∀ cs b, o.op ≠ .select cs b) (h : evDp E st pg io K1) (hG0 : Good E ν st a0 w) (hp : pg.getD true = true) :
    ∃ s y0, K1 (gd pg s) ∧ Den ν st.sl s y0 ∧ OpRes E ops ν st w o s := by
  have pc : (pureP st (pg.getD true) io fun s => K1 (gd pg (noFs s))) → ∃ s y0, K1 (gd pg s) ∧ Den ν st.sl s y0 ∧ OpRes E ops ν st w o s := fun h => by
    obtain ⟨s, y0, h1, h2, h3⟩ := pure_res (ops := ops) his hn hp h hG0
    exact ⟨noFs s, y0, h1, den_noFs h2, h3⟩
  unfold evDp at h
  split at h
  · obtain ⟨h1, h2⟩ := h
    obtain ⟨s, y0, h3, h4, h5⟩ := call_res (ops := ops) his hp h1 h2 hG0
    exact ⟨s, y0, h3, h4, h5⟩
  · obtain ⟨h1, h2⟩ := h
    obtain ⟨y0, h4, h5⟩ := mv_res (ops := ops) his hp h1 hG0
    exact ⟨_, y0, h2, h4, h5⟩
  · split at h
    · rename_i sz n at_ heq
      obtain ⟨h1, h2, h3⟩ := h
      subst h2
      split at h3
      · rename_i l hl
        refine ⟨.v (.string ⟨l.toArray⟩), _, h3, (by simp only [Den]; rfl), fs_res (r := .string ⟨l.toArray⟩) his hn hp h1 (is_toStr_mem his) heq ?_ hG0⟩
        intro t q hx e1 e2 e3 sn
        subst hx e1 e3
        simp only [pureP, Eng.opv, slot, beq_self_eq_true, cond_true, req, strip, List.getElem?_cons_zero, true_and, e2]
        rw [hl]
      · exact h3.elim
    · exact pc h
  · split at h
    · rename_i sz n at_ heq
      obtain ⟨h1, h2⟩ := h
      refine ⟨.v (.int .i64 n), _, h2, (by simp only [Den]; rfl), fs_res (r := .int .i64 n) his hn hp h1 (is_len_mem his) heq ?_ hG0⟩
      intro t q hx e1 e2 e3 sn
      subst hx e1 e3
      simp only [pureP, Eng.opv, slot, beq_self_eq_true, cond_true, req, strip, List.getElem?_cons_zero, true_and]
    · exact pc h
  · exact pc h

theorem evDp_some {io : IOp} {pg : Option Bool} {K1 : SV → Prop} (his : Is E.P o.type o.op io) (h : evDp E st pg io K1) : ∃ s, K1 (gd pg s) := by
  have pc : (pureP st (pg.getD true) io fun s => K1 (gd pg (noFs s))) → ∃ s, K1 (gd pg s) := fun h => by
    obtain ⟨s, h1, _⟩ := pureP_sound his h
    exact ⟨_, h1⟩
  unfold evDp at h
  split at h
  · obtain ⟨h1, s, y0, hd0, hk, _⟩ := h
    exact ⟨s, hk⟩
  · exact ⟨_, h.2⟩
  · split at h
    · obtain ⟨h1, h2, h3⟩ := h
      split at h3
      · exact ⟨_, h3⟩
      · exact h3.elim
    · exact pc h
  · split at h
    · exact ⟨_, h.2⟩
    · exact pc h
  · exact pc h

theorem evD_sound {N : Nat} (hN : E.N = N) {Q : Exit → Act → World → Prop} {K : St → Prop} (hns : ∀ (o : Oper) cs b, o ∈ ops.toList → o.op ≠ .select cs b) (hK : ∀ st' a' w', K st' → Good E ν st' a' w' → Q .normal a' w') :
    ∀ (l : List Oper) (il : List IOper) (st : St) (a0 : Act), (∀ o ∈ l, o ∈ ops.toList) → compOps E.P N ops l = some il → evD E il st K → Good E ν st a0 w →
      JLex E.P ops E.N (fun w' => Below w.heap.size w w') Q l (envOf ν st.sl w.heap.size st.fr)
  | [], il, st, a0, _, hc, h, hG => by
    simp only [compOps, Option.some.injEq] at hc
    subst hc
    intro a w' hb h1 h2 h3
    exact hK st a w' h ((hG.below_ hb).frame h1 h2 fun t => (h3 t).1)
  | o :: l, il, st, a0, hm, hc, h, hG => by
    simp only [compOps] at hc
    split at hc
    · rename_i io ir hio hir
      injection hc with hc
      subst hc
      obtain ⟨hd, his, hdst, hg⟩ := compOper_spec hio
      rw [← hN] at hd
      simp only [evD, evD1, hdst] at h
      have hn : ∀ cs b, o.op ≠ .select cs b := fun cs b => hns o cs b (hm o (List.mem_cons_self ..))
      have hm' : ∀ o ∈ l, o ∈ ops.toList := fun o ho => hm o (List.mem_cons_of_mem _ ho)
      have step : ∀ (pg : Option Bool), (∀ (a : Act) (w' : World), Below w.heap.size w w' → a.tmps.size = E.N → (∀ t ∈ o.looksAt ops, envOf ν st.sl w.heap.size st.fr t (a.tmps.getD t undef) w') → Region.wanted o (yielded ops a.tmps) = pg.getD true) →
          (evDp E st pg io.op fun s => evD E ir (st.put o.dst s) K) → JLex E.P ops E.N (fun w' => Below w.heap.size w w') Q (o :: l) (envOf ν st.sl w.heap.size st.fr) := by
        intro pg hwant hev
        cases hp : pg.getD true with
        | true =>
          obtain ⟨s, y0, hk, hd0, hres⟩ := evDp_sound (ops := ops) his hn hev hG hp
          have hden : ∀ y, Den ν st.sl s y → Den ν st.sl (gd pg s) y := fun y hy => by
            cases pg with
            | none => exact hy
            | some p => exact den_took hp hy
          have hfr : ∀ b w y, Fresh b w s y → Fresh b w (gd pg s) y := fun b w y hy => by
            cases pg with
            | none => exact hy
            | some p => simp only [gd, Fresh]; exact fun _ => hy
          refine ⟨fun y w' => Den ν st.sl (gd pg s) y ∧ Fresh w.heap.size w' (gd pg s) y, fun _ _ _ h hb => ⟨h.1, fresh_stab _ _ h.2 hb⟩, fun a w' hb h1 h2 h3 => ⟨fun _ K' hK' => ?_, fun hw => ?_⟩, ?_⟩
          · exact hres a w' hb h2 h3 K' Q fun y w'' hb' hy hf => hK' y w'' hb' ⟨hden y hy, hfr _ _ _ hf⟩
          · rw [hwant a w' hb h2 h3, hp] at hw; cases hw
          · rw [envOf_put]
            exact evD_sound hN hns hK l ir _ _ hm' hir hk (hG.put hd (hden _ hd0))
        | false =>
          obtain ⟨s, hk⟩ := evDp_some his hev
          cases pg with
          | none => cases hp
          | some p =>
            have hp : p = false := hp
            refine ⟨fun y w' => Den ν st.sl (gd (some p) s) y ∧ Fresh w.heap.size w' (gd (some p) s) y, fun _ _ _ h hb => ⟨h.1, fresh_stab _ _ h.2 hb⟩, fun a w' hb h1 h2 h3 => ⟨fun hw => ?_, fun hw => ?_⟩, ?_⟩
            · rw [hwant a w' hb h2 h3] at hw; rw [hp] at hw; cases hw
            · exact ⟨den_skip hp, by simp only [gd, Fresh]; intro h; rw [hp] at h; cases h⟩
            · rw [envOf_put]
              exact evD_sound hN hns hK l ir _ _ hm' hir hk (hG.put hd (den_skip hp))
      rcases hg with ⟨hg1, hg2⟩ | ⟨j, s, want, hg1, hg2, hs⟩
      · rw [hg2] at h
        simp only at h
        exact step none (fun a w' _ _ _ => by simp [Region.wanted, hg1]) h
      · rw [hg2] at h
        simp only at h
        have gv : ∀ (a : Act) (w' : World), Below w.heap.size w w' → a.tmps.size = E.N → (∀ t ∈ o.looksAt ops, envOf ν st.sl w.heap.size st.fr t (a.tmps.getD t undef) w') →
            (∀ b, slot st.fr s = .v (.bool b) → yielded ops a.tmps j = some b) ∧ (∀ q b, slot st.fr s = .g q (.v (.bool b)) → (q = true → yielded ops a.tmps j = some b) ∧ (q = false → yielded ops a.tmps j = none)) := by
          intro a w' hb hN' hl
          have hsz : a0.tmps.size = a.tmps.size := by rw [hG.size, hN']
          have := guard_val hs ((hG.below_ hb).mix (l := o.looksAt ops) hsz fun t ht => (hl t ht).1)
          rwa [mix_yielded hsz hg1] at this
        split at h
        · rename_i b hb
          refine step (some (b == want)) (fun a w' h1 h2 h3 => ?_) h
          rw [wanted_val hg1, (gv a w' h1 h2 h3).1 b hb]
          rfl
        · rename_i q b hb
          refine step (some (q && (b == want))) (fun a w' h1 h2 h3 => ?_) h
          have := (gv a w' h1 h2 h3).2 q b hb
          rw [wanted_val hg1]
          cases hq : q with
          | true => rw [this.1 hq]; rfl
          | false => rw [this.2 hq]; rfl
        · exact h.elim
    · cases hc
end
end Go.Proofs.Ytaicmkocmnikjaa.Eng
