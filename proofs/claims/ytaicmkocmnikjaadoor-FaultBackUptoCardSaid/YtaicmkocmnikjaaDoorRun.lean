/- Regions in the order of the text. -/
import Derived.Test.YtaicmkocmnikjaaDoorEvs
namespace Go.Proofs.YtaicmkocmnikjaaDoor.Eng
set_option linter.all false
open Go Go.RowKit

/-- a call that leaves one's own blocks alone -/
def CallP (E : Ctx) (rs : List Res) (p : Bool) (f : Nat) (args : List C) (r : C) : Prop :=
  p = true → ∀ av ν w vs, RG av E.own0 E.w0.heap.size ν rs w → (∀ b, E.av b → av b) → Frm E.own0 E.w0 w → DenL ν w (OO av rs ν) args vs →
    Calls E.P f vs.toArray w fun e w' => ∃ y, e = .returned y ∧ Below w.heap.size w w' ∧ Den ν w' (OO av rs ν) r y

def isEff : IOp → Bool
  | .alloc _ _ => true
  | .box _ _ => true
  | .bsl _ _ _ _ _ => true
  | .bsl0 _ => true
  | .mksl _ _ _ _ _ => true
  | .store _ _ _ => true
  | .call _ _ => true
  | .callv _ _ => true
  | .app _ _ _ _ _ => true
  | .apps _ _ _ => true
  | .appz _ _ _ _ _ => true
  | .mkmap _ => true
  | .mupd _ _ _ _ => true
  | _ => false

/-! What stands behind an operation, by name: so that 'simp' does not look into it. -/
def KE (E : Ctx) (st : St) (d : Option Nat) (K : St → Prop) (s : C) (rs' : List Res) (pk : List Nat) : Prop := pkOK E pk ∧ K ⟨putFr (purgeFr pk st.fr) d s, rs'⟩
def KP (st : St) (d : Option Nat) (K : St → Prop) (s : C) : Prop := K ⟨putFr st.fr d s, st.rs⟩
def KPg (st : St) (p : Bool) (d : Option Nat) (K : St → Prop) (s : C) : Prop := K ⟨putFr st.fr d (.g p s), st.rs⟩
def KU (st : St) (d : Option Nat) (K : St → Prop) : Prop := K ⟨putFr st.fr d (.v undef), st.rs⟩

/-- a call under a guard -/
def CallG (E : Ctx) (st : St) (p : Bool) (f : Nat) (args : List C) (d : Option Nat) (K : St → Prop) : Prop :=
  (p = true ∧ CallOK E st.rs f args (KE E st d K)) ∨ (p = false ∧ KU st d K) ∨ ∃ r, CallP E st.rs p f args r ∧ KPg st p d K r

/-- a call under a guard, and what its arguments need -/
def CallH (E : Ctx) (st : St) (p : Bool) (f : Nat) (args : List C) (ok : Prop) (d : Option Nat) (K : St → Prop) : Prop := (p = false ∧ KU st d K) ∨ ok ∧ CallG E st p f args d K

def evU (E : Ctx) (st : St) (d : Option Nat) (o : IOp) (K : St → Prop) : Prop :=
  match isEff o with
  | true => evE E (opv st.fr) st.rs o (KE E st d K)
  | false => pureP (opv st.fr) st.rs true o (KP st d K)
def evG (E : Ctx) (st : St) (p : Bool) (d : Option Nat) (o : IOp) (K : St → Prop) : Prop :=
  match o with
  | .call f args => CallH E st p f (argsV (opv st.fr) args) (argsR p (opv st.fr) args) d K
  | .callv x args => match strip (opv st.fr x) with
    | .v (.func (.func f) ⟨[]⟩ ⟨caps⟩) => CallH E st p f (argsV (opv st.fr) args ++ caps.map .v) (req p (opv st.fr x) ∧ argsR p (opv st.fr) args ∧ callable E.P f = true) d K
    | .clo f caps => CallH E st p f (argsV (opv st.fr) args ++ caps) (req p (opv st.fr x) ∧ argsR p (opv st.fr) args ∧ callable E.P f = true) d K
    | _ => p = false ∧ KU st d K
  | o => match isEff o with
    | true => (p = true → evE E (opv st.fr) st.rs o (KE E st d K)) ∧ (p = false → KU st d K)
    | false => pureP (opv st.fr) st.rs p o (KPg st p d K)
def ev1 (E : Ctx) (o : IOper) (st : St) (K : St → Prop) : Prop :=
  match o.guard with
  | none => evU E st o.dst o.op K
  | some (s, want) => match slot st.fr s with
    | .v (.bool b) => evG E st (b == want) o.dst o.op K
    | .g q (.v (.bool b)) => evG E st (q && (b == want)) o.dst o.op K
    | _ => False
def ev (E : Ctx) : List IOper → St → (St → Prop) → Prop
  | [], st, K => K st
  | o :: r, st, K => ev1 E o st fun st' => ev E r st' K
def KR (E : Ctx) (r : List IOper) (K : St → Prop) (st : St) : Prop := ev E r st K
theorem ev_nil (E : Ctx) (st : St) (K : St → Prop) : ev E [] st K = K st := rfl
theorem ev_cons (E : Ctx) (o : IOper) (r : List IOper) (st : St) (K : St → Prop) : ev E (o :: r) st K = ev1 E o st (KR E r K) := rfl

section
variable {E : Ctx} {ν : List Value} {st : St} {a : Act} {w : World} {rs : List Res}

theorem RG.hr {av own0 : Nat → Prop} {n0 : Nat} (h : RG av own0 n0 ν rs w) : HR ν w (OO av rs ν) rs := fun k r hk => h.res k r hk

theorem good_opv (h : Good E ν st a w) (x : Operand) : Den ν w (OO E.av st.rs ν) (opv st.fr x) (a.eval x) := by
  rw [opv_opf]
  exact den_op x fun t _ => h.fr t

theorem good_put (h : Good E ν st a w) {d : Option Nat} (hd : dstOK E.N d = true) {s : C} {y : Value} (hs : Den ν w (OO E.av st.rs ν) s y) : Good E ν ⟨putFr st.fr d s, st.rs⟩ (a.put d y) w := by
  show GoodF E ν (slot (putFr st.fr d s)) st.rs (a.put d y) w
  rw [slot_putFr]
  exact GoodF.put h hd hs

theorem good_eff (h : Good E ν st a w) {d : Option Nat} (hd : dstOK E.N d = true) {s : C} {y : Value} {rs' : List Res} {pk : List Nat} {ν' : List Value} {w' : World} (hr : RG E.av E.own0 E.w0.heap.size ν' rs' w') (hm : Mv st.rs ν w pk rs' ν' w')
    (hs : Den ν' w' (OO E.av rs' ν') s y) (hp : pkOK E pk) : Good E ν' ⟨putFr (purgeFr pk st.fr) d s, rs'⟩ (a.put d y) w' := by
  show GoodF E ν' (slot (putFr (purgeFr pk st.fr) d s)) rs' (a.put d y) w'
  rw [slot_putFr]
  refine GoodF.put ?_ hd hs
  have := GoodF.mv h hr hm hp
  have e : slot (purgeFr pk st.fr) = fun t => (slot st.fr t).purge pk := funext fun t => slot_purge pk t st.fr
  rw [e]
  exact this

theorem eff_step {oo : Oper} {io : IOp} (his : Is E.P oo.type oo.op io) (hd : dstOK E.N oo.dst = true) {K : St → Prop} (h : evE E (opv st.fr) st.rs io (KE E st oo.dst K)) (hG : Good E ν st a w)
    {K' : Act → World → Prop} {Q : Exit → Act → World → Prop} (hK : ∀ st' ν' a' w', K st' → Good E ν' st' a' w' → K' a' w') : oo.wp E.P a w K' Q := by
  obtain ⟨s, rs', pk, hk, hres⟩ := evE_sound his h
  refine hres E.av ν a w hG.rg (fun _ hb => hb) hG.frm (fun x _ => good_opv hG x) K' Q fun y ν' w' hr hm hs => ?_
  exact hK _ ν' _ _ hk.2 (good_eff hG hd hr hm hs hk.1)

theorem pure_step {oo : Oper} {io : IOp} (his : Is E.P oo.type oo.op io) (hd : dstOK E.N oo.dst = true) {p : Bool} {K1 : C → Prop} {K : St → Prop} {wr : C → C} (hw : ∀ s, K1 s → K ⟨putFr st.fr oo.dst (wr s), st.rs⟩) (hwr : ∀ s y, Den ν w (OO E.av st.rs ν) s y → Den ν w (OO E.av st.rs ν) (wr s) y)
    (h : pureP (opv st.fr) st.rs p io K1) (hG : Good E ν st a w) (hp : p = true)
    {K' : Act → World → Prop} {Q : Exit → Act → World → Prop} (hK : ∀ st' ν' a' w', K st' → Good E ν' st' a' w' → K' a' w') : oo.wp E.P a w K' Q := by
  obtain ⟨s, hs, hy⟩ := pureP_sound his h
  obtain ⟨y, hd', hrun⟩ := hy ν a w _ hG.rg.hr (fun x _ => good_opv hG x) hp
  unfold Oper.wp
  rw [hrun]
  exact hK _ ν _ _ (hw s hs) (good_put hG hd (hwr s y hd'))

theorem evU_sound {oo : Oper} {io : IOp} (his : Is E.P oo.type oo.op io) (hd : dstOK E.N oo.dst = true) {K : St → Prop} (h : evU E st oo.dst io K) (hG : Good E ν st a w)
    {K' : Act → World → Prop} {Q : Exit → Act → World → Prop} (hK : ∀ st' ν' a' w', K st' → Good E ν' st' a' w' → K' a' w') : oo.wp E.P a w K' Q := by
  unfold evU at h
  split at h
  · exact eff_step his hd h hG hK
  · exact pure_step (wr := id) his hd (fun s hs => hs) (fun s y h => h) h hG rfl hK

theorem den_skip {O : Nat → Prop} {p : Bool} {s : C} (hp : p = false) : Den ν w O (.g p s) undef := by
  unfold Den
  exact ⟨fun h => (by rw [hp] at h; cases h), fun _ => rfl⟩
theorem den_took {O : Nat → Prop} {p : Bool} {s : C} {y : Value} (hp : p = true) (h : Den ν w O s y) : Den ν w O (.g p s) y := by
  unfold Den
  exact ⟨fun _ => h, fun h => (by rw [hp] at h; cases h)⟩
theorem undef_not_bool (b : Bool) : undef ≠ .bool b := by intro h; cases h

theorem pureP_some {ov : Operand → C} {p : Bool} {oo : Oper} {io : IOp} (his : Is E.P oo.type oo.op io) {K1 : C → Prop} (h : pureP ov rs p io K1) : ∃ s, K1 s := by
  obtain ⟨s, hs, _⟩ := pureP_sound his h
  exact ⟨s, hs⟩

/-- what the guard says of the state -/
theorem guard_valF {sf : Nat → C} {ops : Array Oper} {j s : Nat} (hs : (ops[j]?).bind (·.dst) = some s) {O : Nat → Prop} (hd : Den ν w O (sf s) (a.tmps.getD s undef)) :
    (∀ b, sf s = .v (.bool b) → yielded ops a.tmps j = some b) ∧ (∀ q b, sf s = .g q (.v (.bool b)) → (q = true → yielded ops a.tmps j = some b) ∧ (q = false → yielded ops a.tmps j = none)) := by
  have hy : ∀ b, a.tmps.getD s undef = .bool b → yielded ops a.tmps j = some b := by
    intro b hb
    unfold yielded
    simp only [hs, Option.bind_some]
    rw [Array.getD_eq_getD_getElem?] at hb
    cases ht : a.tmps[s]? with
    | none => rw [ht] at hb; exact absurd hb (undef_not_bool b)
    | some x => rw [ht] at hb; simp at hb; subst hb; rfl
  have hn : a.tmps.getD s undef = undef → yielded ops a.tmps j = none := by
    intro hb
    unfold yielded
    simp only [hs, Option.bind_some]
    rw [Array.getD_eq_getD_getElem?] at hb
    cases ht : a.tmps[s]? with
    | none => rfl
    | some x => rw [ht] at hb; simp at hb; subst hb; rfl
  refine ⟨fun b hb => ?_, fun q b hb => ?_⟩
  · rw [hb] at hd
    exact hy b (by simpa only [Den] using hd)
  · rw [hb] at hd
    simp only [Den] at hd
    exact ⟨fun hq => hy b (hd.1 hq), fun hq => hn (hd.2 hq)⟩

theorem wanted_val {ops : Array Oper} {o : Oper} {j : Nat} {want : Bool} (hg : o.guard = some (j, want)) (tmps : Array Value) : Region.wanted o (yielded ops tmps) = (yielded ops tmps j == some want) := by
  simp [Region.wanted, hg]

theorem compOper_spec {P : Program} {N : Nat} {ops : Array Oper} {o : Oper} {io : IOper} (h : compOper P N ops o = some io) :
    dstOK N o.dst = true ∧ Is P o.type o.op io.op ∧ io.dst = o.dst ∧
      ((o.guard = none ∧ io.guard = none) ∨ ∃ j s want, o.guard = some (j, want) ∧ io.guard = some (s, want) ∧ (ops[j]?).bind (·.dst) = some s) := by
  unfold compOper at h
  split at h
  · rename_i hd
    split at h
    · rename_i io' g hio hg
      injection h with h
      subst h
      refine ⟨hd, comp_is hio, rfl, ?_⟩
      unfold compGuard at hg
      split at hg
      · injection hg with hg
        subst hg
        exact .inl ⟨by assumption, rfl⟩
      · rename_i j want heq
        split at hg
        · rename_i s hs
          injection hg with hg
          subst hg
          exact .inr ⟨j, s, want, heq, rfl, hs⟩
        · cases hg
    · cases h
  · cases h

/-- a call under a guard -/
theorem callG_sound {oo : Oper} (hd : dstOK E.N oo.dst = true) {p : Bool} {f : Nat} {cs : List C} {K : St → Prop} (h : CallG E st p f cs oo.dst K) (hG : Good E ν st a w)
    (hrun : p = true → ∃ vs : List Value, (execOp a.eval oo).run E.P w = .ok (.enter f vs.toArray) w ∧ DenL ν w (OO E.av st.rs ν) cs vs)
    {K' : Act → World → Prop} {Q : Exit → Act → World → Prop} (hK : ∀ st' ν' a' w', K st' → Good E ν' st' a' w' → K' a' w') : if p = true then oo.wp E.P a w K' Q else K' (a.put oo.dst undef) w := by
  rcases h with ⟨hp, s, rs', pk, hk, hT⟩ | ⟨hp, hk⟩ | ⟨r, hP, hk⟩
  · rw [if_pos hp]
    obtain ⟨vs, h1, h2⟩ := hrun hp
    unfold Oper.wp
    rw [h1]
    refine (hT E.av ν w vs hG.rg (fun _ hb => hb) hG.frm h2).mono ?_
    rintro e w' ⟨y, ν', rfl, hr, hm, hs⟩
    exact hK _ ν' _ _ hk.2 (good_eff hG hd hr hm hs hk.1)
  · rw [if_neg (by rw [hp]; simp)]
    exact hK _ ν _ _ hk (good_put hG hd (by simp [Den]))
  · cases hp : p with
    | false =>
      rw [if_neg (by simp)]
      exact hK _ ν _ _ hk (good_put hG hd (den_skip hp))
    | true =>
      rw [if_pos rfl]
      obtain ⟨vs, h1, h2⟩ := hrun hp
      unfold Oper.wp
      rw [h1]
      refine (hP hp E.av ν w vs hG.rg (fun _ hb => hb) hG.frm h2).mono ?_
      rintro e w' ⟨y, rfl, hb, hs⟩
      exact hK _ ν _ _ hk (good_put (GoodF.below hG hb) hd (den_took hp hs))

/-- one operation, its guard decided to p -/
theorem evG_sound {oo : Oper} {io : IOp} (his : Is E.P oo.type oo.op io) (hd : dstOK E.N oo.dst = true) {p : Bool} {K : St → Prop} (h : evG E st p oo.dst io K) (hG : Good E ν st a w)
    {K' : Act → World → Prop} {Q : Exit → Act → World → Prop} (hK : ∀ st' ν' a' w', K st' → Good E ν' st' a' w' → K' a' w') :
    if p = true then oo.wp E.P a w K' Q else K' (a.put oo.dst undef) w := by
  have pure_case : pureP (opv st.fr) st.rs p io (KPg st p oo.dst K) → if p = true then oo.wp E.P a w K' Q else K' (a.put oo.dst undef) w := fun h => by
    cases hp : p with
    | false =>
      rw [if_neg (by simp)]
      obtain ⟨s, hs⟩ := pureP_some his h
      exact hK _ ν _ _ hs (good_put hG hd (den_skip hp))
    | true =>
      rw [if_pos rfl]
      exact pure_step (wr := C.g p) his hd (fun s hs => hs) (fun s y h => den_took hp h) h hG hp hK
  have eff_case : ((p = true → evE E (opv st.fr) st.rs io (KE E st oo.dst K)) ∧ (p = false → KU st oo.dst K)) → if p = true then oo.wp E.P a w K' Q else K' (a.put oo.dst undef) w := fun h => by
    cases hp : p with
    | false => rw [if_neg (by simp)]; exact hK _ ν _ _ (h.2 hp) (good_put hG hd (by simp [Den]))
    | true => rw [if_pos rfl]; exact eff_step his hd (h.1 hp) hG hK
  have skip_case : p = false → KU st oo.dst K → if p = true then oo.wp E.P a w K' Q else K' (a.put oo.dst undef) w := fun hp hk => by
    rw [if_neg (by rw [hp]; simp)]
    exact hK _ ν _ _ hk (good_put hG hd (by simp [Den]))
  cases io with
  | call f args =>
    rcases h with ⟨hp, hk⟩ | ⟨h1, h⟩
    · exact skip_case hp hk
    · refine callG_sound hd h hG (fun hp => ?_) hK
      obtain ⟨dst, op, ty, pos, after, guard⟩ := oo
      simp only at his
      cases his with
      | call c f hcc hcl => exact ⟨_, by rw [exec_call hcc, run_callFunc_ok hcl], argsV_den hp h1 fun x _ => good_opv hG x⟩
  | callv x args =>
    unfold evG at h
    simp only at h
    split at h
    · rename_i f caps hx
      rcases h with ⟨hp, hk⟩ | ⟨⟨h0, h1, hcl⟩, h⟩
      · exact skip_case hp hk
      · refine callG_sound hd h hG (fun hp => ?_) hK
        have e1 := opS hp (good_opv hG x) h0
        rw [hx] at e1
        have e1 := den_v e1
        obtain ⟨dst, op, ty, pos, after, guard⟩ := oo
        simp only at his
        cases his with
        | callv c x hc => exact ⟨_, by rw [exec_callv hc e1, run_callFunc_ok hcl], (argsV_den hp h1 fun x _ => good_opv hG x).append (DenL.vs _)⟩
    · rename_i f caps hx
      rcases h with ⟨hp, hk⟩ | ⟨⟨h0, h1, hcl⟩, h⟩
      · exact skip_case hp hk
      · refine callG_sound hd h hG (fun hp => ?_) hK
        have e1 := opS hp (good_opv hG x) h0
        rw [hx] at e1
        simp only [Den] at e1
        obtain ⟨vs, hD, e1⟩ := e1
        obtain ⟨dst, op, ty, pos, after, guard⟩ := oo
        simp only at his
        cases his with
        | callv c x hc => exact ⟨_, by rw [exec_callv hc e1, run_callFunc_ok hcl], (argsV_den hp h1 fun x _ => good_opv hG x).append hD⟩
    · exact skip_case h.1 h.2
  | _ => first | exact pure_case h | exact eff_case h

theorem ev_sound {N : Nat} (hN : E.N = N) {ops : Array Oper} {Q : Exit → Act → World → Prop} {K : St → Prop} (hK : ∀ st' ν' a' w', K st' → Good E ν' st' a' w' → Q .normal a' w') :
    ∀ (l : List Oper) (il : List IOper) (st : St) (ν : List Value) (a : Act) (w : World), compOps E.P N ops l = some il → ev E il st K → Good E ν st a w → wpList E.P ops Q l a w
  | [], il, st, ν, a, w, hc, h, hG => by
    simp only [compOps, Option.some.injEq] at hc
    subst hc
    exact hK st ν a w h hG
  | o :: l, il, st, ν, a, w, hc, h, hG => by
    simp only [compOps] at hc
    split at hc
    · rename_i io ir hio hir
      injection hc with hc
      subst hc
      obtain ⟨hd, his, hdst, hg⟩ := compOper_spec hio
      rw [← hN] at hd
      have next : ∀ st' ν' a' w', (ev E ir st' K) → Good E ν' st' a' w' → wpList E.P ops Q l a' w' := fun st' ν' a' w' h' hG' => ev_sound hN hK l ir st' ν' a' w' hir h' hG'
      simp only [ev, ev1, hdst] at h
      rcases hg with ⟨hg1, hg2⟩ | ⟨j, s, want, hg1, hg2, hs⟩
      · rw [hg2] at h
        simp only at h
        unfold wpList
        rw [if_pos (by simp [Region.wanted, hg1])]
        exact .inl (evU_sound his hd h hG next)
      · rw [hg2] at h
        simp only at h
        obtain ⟨gv1, gv2⟩ := guard_valF hs (hG.fr s)
        have fin : ∀ p : Bool, (yielded ops a.tmps j == some want) = p → evG E st p o.dst io.op (fun st' => ev E ir st' K) → wpList E.P ops Q (o :: l) a w := by
          intro p hp h'
          have := evG_sound his hd h' hG next (Q := Q)
          unfold wpList
          rw [wanted_val hg1, hp]
          cases p with
          | true => exact .inl (by simpa using this)
          | false => simpa using this
        split at h
        · rename_i b hb
          exact fin _ (by rw [gv1 b hb]; rfl) h
        · rename_i q b hb
          refine fin _ ?_ h
          cases hq : q with
          | true => rw [(gv2 q b hb).1 hq]; rfl
          | false => rw [(gv2 q b hb).2 hq]; rfl
        · exact h.elim
    · cases hc
end
end Go.Proofs.YtaicmkocmnikjaaDoor.Eng
