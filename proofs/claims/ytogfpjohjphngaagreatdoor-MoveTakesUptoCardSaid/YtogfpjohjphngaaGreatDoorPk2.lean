/- A part of the proof: lemmas only, with the conditions that each names. -/
import Derived.Laws.Bits64b
import Derived.Test.YtogfpjohjphngaaGreatDoorPk1
set_option linter.all false
namespace Go.Proofs.YtogfpjohjphngaaGreatDoor.Eng
open Go Go.RowKit
def P6 (E : Ctx) (rs : List Res) (p : Bool) (f : Nat) (args : List C) (r : C) : Prop :=
 p = true -> ∀ av ν w vs, RG av E.own0 E.w0.heap.size ν rs w -> (∀ b, E.av b -> av b) -> Frm E.own0 E.w0 w -> l6 ν w (OO av rs ν) args vs ->
  Calls E.P f vs.toArray w fun e w' => ∃ y, e = .returned y /\ Below w.heap.size w w' /\ Den ν w' (OO av rs ν) r y
def b3q : IOp -> Bool
 | .alloc _ _ => true
 | .box _ _ => true
 | .bsl _ _ _ _ _ => true
 | .a2W _ => true
 | .a2X _ _ _ _ _ => true
 | .store _ _ _ => true
 | .call _ _ => true
 | .X6 _ _ => true
 | .app _ _ _ _ _ => true
 | .apps _ _ _ => true
 | .a4u _ _ _ _ _ => true
 | .a2H _ => true
 | .a6o _ _ _ _ => true
 | _ => false
def KE (E : Ctx) (st : St) (d : Option Nat) (K : St -> Prop) (s : C) (rs' : List Res) (pk : List Nat) : Prop := a3N E pk /\ K ⟨M8 (a0A pk st.fr) d s, rs'⟩
def KP (st : St) (d : Option Nat) (K : St -> Prop) (s : C) : Prop := K ⟨M8 st.fr d s, st.rs⟩
def KPg (st : St) (p : Bool) (d : Option Nat) (K : St -> Prop) (s : C) : Prop := K ⟨M8 st.fr d (.g p s), st.rs⟩
def KU (st : St) (d : Option Nat) (K : St -> Prop) : Prop := K ⟨M8 st.fr d (.v undef), st.rs⟩
def b7G (E : Ctx) (st : St) (p : Bool) (f : Nat) (args : List C) (d : Option Nat) (K : St -> Prop) : Prop :=
 (p = true /\ l9 E st.rs f args (KE E st d K)) \/ (p = false /\ KU st d K) \/ ∃ r, P6 E st.rs p f args r /\ KPg st p d K r
def a0s (E : Ctx) (st : St) (p : Bool) (f : Nat) (args : List C) (ok : Prop) (d : Option Nat) (K : St -> Prop) : Prop := (p = false /\ KU st d K) \/ ok /\ b7G E st p f args d K
def evU (E : Ctx) (st : St) (d : Option Nat) (o : IOp) (K : St -> Prop) : Prop :=
 match b3q o with
 | true => evE E (opv st.fr) st.rs o (KE E st d K)
 | false => E8 (opv st.fr) st.rs true o (KP st d K)
def evG (E : Ctx) (st : St) (p : Bool) (d : Option Nat) (o : IOp) (K : St -> Prop) : Prop :=
 match o with
 | .call f args => a0s E st p f (a0L (opv st.fr) args) (a2a p (opv st.fr) args) d K
 | .X6 x args => match strip (opv st.fr x) with
  | .v (.func (.func f) ⟨[]⟩ ⟨caps⟩) => a0s E st p f (a0L (opv st.fr) args ++ caps.map .v) (req p (opv st.fr x) /\ a2a p (opv st.fr) args /\ callable E.P f = true) d K
  | .clo f caps => a0s E st p f (a0L (opv st.fr) args ++ caps) (req p (opv st.fr x) /\ a2a p (opv st.fr) args /\ callable E.P f = true) d K
  | _ => p = false /\ KU st d K
 | o => match b3q o with
  | true => (p = true -> evE E (opv st.fr) st.rs o (KE E st d K)) /\ (p = false -> KU st d K)
  | false => E8 (opv st.fr) st.rs p o (KPg st p d K)
def ev1 (E : Ctx) (o : D9) (st : St) (K : St -> Prop) : Prop :=
 match o.guard with
 | none => evU E st o.dst o.op K
 | some (s, want) => match slot st.fr s with
  | .v (.bool b) => evG E st (b == want) o.dst o.op K
  | .g q (.v (.bool b)) => evG E st (q && (b == want)) o.dst o.op K
  | _ => False
def ev (E : Ctx) : List D9 -> St -> (St -> Prop) -> Prop
 | [], st, K => K st
 | o :: r, st, K => ev1 E o st fun st' => ev E r st' K
def KR (E : Ctx) (r : List D9) (K : St -> Prop) (st : St) : Prop := ev E r st K
theorem b9D (E : Ctx) (st : St) (K : St -> Prop) : ev E [] st K = K st := rfl
theorem b8v (E : Ctx) (o : D9) (r : List D9) (st : St) (K : St -> Prop) : ev E (o :: r) st K = ev1 E o st (KR E r K) := rfl
section
variable {E : Ctx} {ν : List Value} {st : St} {a : Act} {w : World} {rs : List Res}
theorem RG.hr {av own0 : Nat -> Prop} {n0 : Nat} (h : RG av own0 n0 ν rs w) : HR ν w (OO av rs ν) rs := fun k r hk => h.res k r hk
theorem a1g (h : Good E ν st a w) (x : Operand) : Den ν w (OO E.av st.rs ν) (opv st.fr x) (a.eval x) := by
 rw [b3d]
 exact b4Y x fun t _ => h.fr t
theorem a1B (h : Good E ν st a w) {d : Option Nat} (hd : a0v E.N d = true) {s : C} {y : Value} (hs : Den ν w (OO E.av st.rs ν) s y) : Good E ν ⟨M8 st.fr d s, st.rs⟩ (a.put d y) w := by
 show G6 E ν (slot (M8 st.fr d s)) st.rs (a.put d y) w
 rw [Q7]
 exact G6.put h hd hs
theorem b0Y (h : Good E ν st a w) {d : Option Nat} (hd : a0v E.N d = true) {s : C} {y : Value} {rs' : List Res} {pk : List Nat} {ν' : List Value} {w' : World} (hr : RG E.av E.own0 E.w0.heap.size ν' rs' w') (hm : Mv st.rs ν w pk rs' ν' w')
  (hs : Den ν' w' (OO E.av rs' ν') s y) (hp : a3N E pk) : Good E ν' ⟨M8 (a0A pk st.fr) d s, rs'⟩ (a.put d y) w' := by
 show G6 E ν' (slot (M8 (a0A pk st.fr) d s)) rs' (a.put d y) w'
 rw [Q7]
 refine G6.put ?_ hd hs
 have := G6.mv h hr hm hp
 have e : slot (a0A pk st.fr) = fun t => (slot st.fr t).y7 pk := funext fun t => a5d pk t st.fr
 rw [e]
 exact this
theorem b1F {oo : Oper} {io : IOp} (his : Is E.P oo.type oo.op io) (hd : a0v E.N oo.dst = true) {K : St -> Prop} (h : evE E (opv st.fr) st.rs io (KE E st oo.dst K)) (hG : Good E ν st a w)
    {K' : Act -> World -> Prop} {Q : Exit -> Act -> World -> Prop} (hK : ∀ st' ν' a' w', K st' -> Good E ν' st' a' w' -> K' a' w') : oo.wp E.P a w K' Q := by
  obtain ⟨s, rs', pk, hk, hres⟩ := a8W his h
  refine hres E.av ν a w hG.rg (fun _ hb => hb) hG.frm (fun x _ => a1g hG x) K' Q fun y ν' w' hr hm hs => ?_
  exact hK _ ν' _ _ hk.2 (b0Y hG hd hr hm hs hk.1)
theorem a9v {oo : Oper} {io : IOp} (his : Is E.P oo.type oo.op io) (hd : a0v E.N oo.dst = true) {p : Bool} {K1 : C -> Prop} {K : St -> Prop} {wr : C -> C} (hw : ∀ s, K1 s -> K ⟨M8 st.fr oo.dst (wr s), st.rs⟩) (hwr : ∀ s y, Den ν w (OO E.av st.rs ν) s y -> Den ν w (OO E.av st.rs ν) (wr s) y)
    (h : E8 (opv st.fr) st.rs p io K1) (hG : Good E ν st a w) (hp : p = true)
    {K' : Act -> World -> Prop} {Q : Exit -> Act -> World -> Prop} (hK : ∀ st' ν' a' w', K st' -> Good E ν' st' a' w' -> K' a' w') : oo.wp E.P a w K' Q := by
  obtain ⟨s, hs, hy⟩ := a2F his h
  obtain ⟨y, hd', hrun⟩ := hy ν a w _ hG.rg.hr (fun x _ => a1g hG x) hp
  unfold Oper.wp
  rw [hrun]
  exact hK _ ν _ _ (hw s hs) (a1B hG hd (hwr s y hd'))
theorem b5M {oo : Oper} {io : IOp} (his : Is E.P oo.type oo.op io) (hd : a0v E.N oo.dst = true) {K : St -> Prop} (h : evU E st oo.dst io K) (hG : Good E ν st a w)
    {K' : Act -> World -> Prop} {Q : Exit -> Act -> World -> Prop} (hK : ∀ st' ν' a' w', K st' -> Good E ν' st' a' w' -> K' a' w') : oo.wp E.P a w K' Q := by
  unfold evU at h
  split at h
  · exact b1F his hd h hG hK
  · exact a9v (wr := id) his hd (fun s hs => hs) (fun s y h => h) h hG rfl hK
theorem a5v {O : Nat -> Prop} {p : Bool} {s : C} (hp : p = false) : Den ν w O (.g p s) undef := by
 unfold Den
 exact ⟨fun h => (by rw [hp] at h; cases h), fun _ => rfl⟩
theorem a5r {O : Nat -> Prop} {p : Bool} {s : C} {y : Value} (hp : p = true) (h : Den ν w O s y) : Den ν w O (.g p s) y := by
 unfold Den
 exact ⟨fun _ => h, fun h => (by rw [hp] at h; cases h)⟩
theorem a8F (b : Bool) : undef ≠ .bool b := by intro h; cases h
theorem b3l {ov : Operand -> C} {p : Bool} {oo : Oper} {io : IOp} (his : Is E.P oo.type oo.op io) {K1 : C -> Prop} (h : E8 ov rs p io K1) : ∃ s, K1 s := by
 obtain ⟨s, hs, _⟩ := a2F his h
 exact ⟨s, hs⟩
theorem a5o {sf : Nat -> C} {ops : Array Oper} {j s : Nat} (hs : (ops[j]?).bind (·.dst) = some s) {O : Nat -> Prop} (hd : Den ν w O (sf s) (a.tmps.getD s undef)) :
  (∀ b, sf s = .v (.bool b) -> yielded ops a.tmps j = some b) /\ (∀ q b, sf s = .g q (.v (.bool b)) -> (q = true -> yielded ops a.tmps j = some b) /\ (q = false -> yielded ops a.tmps j = none)) := by
 have hy : ∀ b, a.tmps.getD s undef = .bool b -> yielded ops a.tmps j = some b := by
  intro b hb
  unfold yielded
  simp only [hs, Option.bind_some]
  rw [Array.getD_eq_getD_getElem?] at hb
  cases ht : a.tmps[s]? with
  | none => rw [ht] at hb; exact absurd hb (a8F b)
  | some x => rw [ht] at hb; simp at hb; subst hb; rfl
 have hn : a.tmps.getD s undef = undef -> yielded ops a.tmps j = none := by
  intro hb
  unfold yielded
  simp only [hs, Option.bind_some]
  rw [Array.getD_eq_getD_getElem?] at hb
  cases ht : a.tmps[s]? with
  | none => rfl
  | some x => rw [ht] at hb; simp at hb; subst hb; rfl
 refine ⟨fun b hb => ?_, fun q b hb => ?_⟩
 ·rw [hb] at hd
  exact hy b (by simpa only [Den] using hd)
 ·rw [hb] at hd
  simp only [Den] at hd
  exact ⟨fun hq => hy b (hd.1 hq), fun hq => hn (hd.2 hq)⟩
theorem a5p {ops : Array Oper} {o : Oper} {j : Nat} {want : Bool} (hg : o.guard = some (j, want)) (tmps : Array Value) : Region.wanted o (yielded ops tmps) = (yielded ops tmps j == some want) := by
 simp [Region.wanted, hg]
theorem Y6 {P : Program} {N : Nat} {ops : Array Oper} {o : Oper} {io : D9} (h : a1D P N ops o = some io) :
  a0v N o.dst = true /\ Is P o.type o.op io.op /\ io.dst = o.dst /\
   ((o.guard = none /\ io.guard = none) \/ ∃ j s want, o.guard = some (j, want) /\ io.guard = some (s, want) /\ (ops[j]?).bind (·.dst) = some s) := by
 unfold a1D at h
 split at h
 ·rename_i hd
  split at h
  ·rename_i io' g hio hg
   injection h with h
   subst h
   refine ⟨hd, b8n hio, rfl, ?_⟩
   unfold a9a at hg
   split at hg
   ·injection hg with hg
    subst hg
    exact .inl ⟨by assumption, rfl⟩
   ·rename_i j want heq
    split at hg
    ·rename_i s hs
     injection hg with hg
     subst hg
     exact .inr ⟨j, s, want, heq, rfl, hs⟩
    ·cases hg
  ·cases h
 ·cases h
theorem a4r {oo : Oper} (hd : a0v E.N oo.dst = true) {p : Bool} {f : Nat} {cs : List C} {K : St -> Prop} (h : b7G E st p f cs oo.dst K) (hG : Good E ν st a w)
    (hrun : p = true -> ∃ vs : List Value, (execOp a.eval oo).run E.P w = .ok (.enter f vs.toArray) w /\ l6 ν w (OO E.av st.rs ν) cs vs)
    {K' : Act -> World -> Prop} {Q : Exit -> Act -> World -> Prop} (hK : ∀ st' ν' a' w', K st' -> Good E ν' st' a' w' -> K' a' w') : if p = true then oo.wp E.P a w K' Q else K' (a.put oo.dst undef) w := by
  rcases h with ⟨hp, s, rs', pk, hk, hT⟩ | ⟨hp, hk⟩ | ⟨r, hP, hk⟩
  · rw [if_pos hp]
    obtain ⟨vs, h1, h2⟩ := hrun hp
    unfold Oper.wp
    rw [h1]
    refine (hT E.av ν w vs hG.rg (fun _ hb => hb) hG.frm h2).mono ?_
    rintro e w' ⟨y, ν', rfl, hr, hm, hs⟩
    exact hK _ ν' _ _ hk.2 (b0Y hG hd hr hm hs hk.1)
  · rw [if_neg (by rw [hp]; simp)]
    exact hK _ ν _ _ hk (a1B hG hd (by simp [Den]))
  · cases hp : p with
    | false =>
      rw [if_neg (by simp)]
      exact hK _ ν _ _ hk (a1B hG hd (a5v hp))
    | true =>
      rw [if_pos rfl]
      obtain ⟨vs, h1, h2⟩ := hrun hp
      unfold Oper.wp
      rw [h1]
      refine (hP hp E.av ν w vs hG.rg (fun _ hb => hb) hG.frm h2).mono ?_
      rintro e w' ⟨y, rfl, hb, hs⟩
      exact hK _ ν _ _ hk (a1B (G6.below hG hb) hd (a5r hp hs))
theorem b5x {oo : Oper} {io : IOp} (his : Is E.P oo.type oo.op io) (hd : a0v E.N oo.dst = true) {p : Bool} {K : St -> Prop} (h : evG E st p oo.dst io K) (hG : Good E ν st a w)
    {K' : Act -> World -> Prop} {Q : Exit -> Act -> World -> Prop} (hK : ∀ st' ν' a' w', K st' -> Good E ν' st' a' w' -> K' a' w') :
    if p = true then oo.wp E.P a w K' Q else K' (a.put oo.dst undef) w := by
  have pure_case : E8 (opv st.fr) st.rs p io (KPg st p oo.dst K) -> if p = true then oo.wp E.P a w K' Q else K' (a.put oo.dst undef) w := fun h => by
    cases hp : p with
    | false =>
      rw [if_neg (by simp)]
      obtain ⟨s, hs⟩ := b3l his h
      exact hK _ ν _ _ hs (a1B hG hd (a5v hp))
    | true =>
      rw [if_pos rfl]
      exact a9v (wr := C.g p) his hd (fun s hs => hs) (fun s y h => a5r hp h) h hG hp hK
  have eff_case : ((p = true -> evE E (opv st.fr) st.rs io (KE E st oo.dst K)) /\ (p = false -> KU st oo.dst K)) -> if p = true then oo.wp E.P a w K' Q else K' (a.put oo.dst undef) w := fun h => by
    cases hp : p with
    | false => rw [if_neg (by simp)]; exact hK _ ν _ _ (h.2 hp) (a1B hG hd (by simp [Den]))
    | true => rw [if_pos rfl]; exact b1F his hd (h.1 hp) hG hK
  have skip_case : p = false -> KU st oo.dst K -> if p = true then oo.wp E.P a w K' Q else K' (a.put oo.dst undef) w := fun hp hk => by
    rw [if_neg (by rw [hp]; simp)]
    exact hK _ ν _ _ hk (a1B hG hd (by simp [Den]))
  cases io with
  | call f args =>
    rcases h with ⟨hp, hk⟩ | ⟨h1, h⟩
    · exact skip_case hp hk
    · refine a4r hd h hG (fun hp => ?_) hK
      obtain ⟨dst, op, ty, pos, after, guard⟩ := oo
      simp only at his
      cases his with
      | call c f hcc hcl => exact ⟨_, by rw [a5H hcc, J3 hcl], Q9 hp h1 fun x _ => a1g hG x⟩
  | X6 x args =>
    unfold evG at h
    simp only at h
    split at h
    · rename_i f caps hx
      rcases h with ⟨hp, hk⟩ | ⟨⟨h0, h1, hcl⟩, h⟩
      · exact skip_case hp hk
      · refine a4r hd h hG (fun hp => ?_) hK
        have e1 := opS hp (a1g hG x) h0
        rw [hx] at e1
        have e1 := y9 e1
        obtain ⟨dst, op, ty, pos, after, guard⟩ := oo
        simp only at his
        cases his with
        | X6 c x hc => exact ⟨_, by rw [a1o hc e1, J3 hcl], (Q9 hp h1 fun x _ => a1g hG x).append (l6.vs _)⟩
    · rename_i f caps hx
      rcases h with ⟨hp, hk⟩ | ⟨⟨h0, h1, hcl⟩, h⟩
      · exact skip_case hp hk
      · refine a4r hd h hG (fun hp => ?_) hK
        have e1 := opS hp (a1g hG x) h0
        rw [hx] at e1
        simp only [Den] at e1
        obtain ⟨vs, hD, e1⟩ := e1
        obtain ⟨dst, op, ty, pos, after, guard⟩ := oo
        simp only at his
        cases his with
        | X6 c x hc => exact ⟨_, by rw [a1o hc e1, J3 hcl], (Q9 hp h1 fun x _ => a1g hG x).append hD⟩
    · exact skip_case h.1 h.2
  | _ => first | exact pure_case h | exact eff_case h
theorem b1k {N : Nat} (hN : E.N = N) {ops : Array Oper} {Q : Exit -> Act -> World -> Prop} {K : St -> Prop} (hK : ∀ st' ν' a' w', K st' -> Good E ν' st' a' w' -> Q .normal a' w') :
  ∀ (l : List Oper) (il : List D9) (st : St) (ν : List Value) (a : Act) (w : World), Z0 E.P N ops l = some il -> ev E il st K -> Good E ν st a w -> wpList E.P ops Q l a w
 | [], il, st, ν, a, w, hc, h, hG => by
  simp only [Z0, Option.some.injEq] at hc
  subst hc
  exact hK st ν a w h hG
 | o :: l, il, st, ν, a, w, hc, h, hG => by
  simp only [Z0] at hc
  split at hc
  ·rename_i io ir hio hir
   injection hc with hc
   subst hc
   obtain ⟨hd, his, hdst, hg⟩ := Y6 hio
   rw [<- hN] at hd
   have next : ∀ st' ν' a' w', (ev E ir st' K) -> Good E ν' st' a' w' -> wpList E.P ops Q l a' w' := fun st' ν' a' w' h' hG' => b1k hN hK l ir st' ν' a' w' hir h' hG'
   simp only [ev, ev1, hdst] at h
   rcases hg with ⟨hg1, hg2⟩ | ⟨j, s, want, hg1, hg2, hs⟩
   ·rw [hg2] at h
    simp only at h
    unfold wpList
    rw [if_pos (by simp [Region.wanted, hg1])]
    exact .inl (b5M his hd h hG next)
   ·rw [hg2] at h
    simp only at h
    obtain ⟨gv1, gv2⟩ := a5o hs (hG.fr s)
    have fin : ∀ p : Bool, (yielded ops a.tmps j == some want) = p -> evG E st p o.dst io.op (fun st' => ev E ir st' K) -> wpList E.P ops Q (o :: l) a w := by
     intro p hp h'
     have := b5x his hd h' hG next (Q := Q)
     unfold wpList
     rw [a5p hg1, hp]
     cases p with
     | true => exact .inl (by simpa using this)
     | false => simpa using this
    split at h
    ·rename_i b hb
     exact fin _ (by rw [gv1 b hb]; rfl) h
    ·rename_i q b hb
     refine fin _ ?_ h
     cases hq : q with
     | true => rw [(gv2 q b hb).1 hq]; rfl
     | false => rw [(gv2 q b hb).2 hq]; rfl
    ·exact h.elim
  ·cases hc
end
structure Pd where
 ty : TypeId
 zero : List Value
structure TR where
 w : Nat -> Option C
 pk : List Nat
 rs' : Option (List Res)
 pw : Nat -> Option (Option Pd)
structure SX where
 sf : Nat -> C
 rs : List Res
 pend : Nat -> Option Pd
def TR.step (r : TR) (x : SX) : SX := ⟨fun t => (r.w t).getD ((x.sf t).y7 r.pk), r.rs'.getD x.rs, fun t => (r.pw t).getD (x.pend t)⟩
def A8 (D : Nat -> Bool) : List TR -> Nat -> SX -> SX
 | [], _, x => x
 | r :: l, k, x => A8 D l (k + 1) (if D k = true then r.step x else x)
structure a8b (r q : TR) : Prop where
 w : ∀ t, r.w t = none \/ q.w t = none
 rq : ∀ t c, r.w t = some c -> c.y7 q.pk = c
 qr : ∀ t c, q.w t = some c -> c.y7 r.pk = c
 pk : r.pk = [] \/ q.pk = []
 rs : r.rs' = none \/ q.rs' = none
 pw : ∀ t, r.pw t = none \/ q.pw t = none
theorem a8b.comm {r q : TR} (h : a8b r q) (x : SX) : q.step (r.step x) = r.step (q.step x) := by
 unfold TR.step
 simp only [SX.mk.injEq]
 refine ⟨funext fun t => ?_, ?_, funext fun t => ?_⟩
 ·cases hr : r.w t with
  | some c =>
   rcases h.w t with h1 | h1
   ·rw [hr] at h1; cases h1
   ·rw [h1]; simp only [Option.getD_some, Option.getD_none]; exact h.rq t c hr
  | none =>
   cases hq : q.w t with
   | some c => simp only [Option.getD_some, Option.getD_none]; exact (h.qr t c hq).symm
   | none =>
    simp only [Option.getD_none]
    rcases h.pk with h1 | h1 <;> rw [h1] <;> rfl
 ·rcases h.rs with h1 | h1 <;> rw [h1] <;> simp
 ·rcases h.pw t with h1 | h1 <;> rw [h1] <;> simp
theorem a8T {D : Nat -> Bool} {r : TR} : ∀ (l : List TR) (k : Nat) (x : SX), (∀ j q, l[j]? = some q -> D (k + j) = true -> a8b r q) -> A8 D l k (r.step x) = r.step (A8 D l k x)
 | [], _, _, _ => rfl
 | q :: l, k, x, h => by
  have h0 := h 0 q rfl
  have h1 := a8T (D := D) (r := r) l (k + 1) (if D k = true then q.step x else x) (fun j q' hj hd => h (j + 1) q' (by simpa using hj) (by rw [show k + (j + 1) = k + 1 + j by omega]; exact hd))
  simp only [A8]
  rw [<- h1]
  congr 1
  cases hd : D k with
  | true => simp only [if_true]; exact (h0 hd).comm x
  | false => rfl
theorem a5B {D D' : Nat -> Bool} : ∀ (l : List TR) (k : Nat) (x : SX), (∀ j, j < l.length -> D (k + j) = D' (k + j)) -> A8 D l k x = A8 D' l k x
 | [], _, _, _ => rfl
 | q :: l, k, x, h => by
  simp only [A8]
  rw [show D k = D' k from h 0 (by simp)]
  exact a5B l (k + 1) _ fun j hj => by rw [show k + 1 + j = k + (j + 1) by omega]; exact h (j + 1) (by simp; omega)
theorem b0M {D D' : Nat -> Bool} {i : Nat} {r : TR} (hi : D i = false) (hi' : D' i = true) (hD : ∀ j, j ≠ i -> D' j = D j) : ∀ (l : List TR) (k : Nat) (x : SX), k <= i -> l[i - k]? = some r -> (∀ j q, i < j -> l[j - k]? = some q -> D j = true -> a8b r q) ->
  A8 D' l k x = r.step (A8 D l k x)
 | [], k, x, hk, hr, _ => by simp at hr
 | q :: l, k, x, hk, hr, hc => by
  simp only [A8]
  by_cases hki : k = i
  ·subst hki
   simp at hr
   subst hr
   rw [hi, hi']
   simp only [if_true, c2j, if_false]
   rw [a5B (D := D') (D' := D) l (k + 1) _ (fun j _ => hD _ (by omega))]
   exact a8T l (k + 1) x fun j q' hj hd => hc (k + 1 + j) q' (by omega) (by rw [show k + 1 + j - k = j + 1 by omega]; simpa using hj) hd
  ·rw [hD k hki]
   refine b0M hi hi' hD l (k + 1) _ (by omega) (by rw [show i - k = i - (k + 1) + 1 by omega] at hr; simpa using hr) fun j q' hj hq hd => ?_
   exact hc j q' hj (by rw [show j - k = j - (k + 1) + 1 by omega]; simpa using hq) hd
theorem b1U (pk : List Nat) (c : C) : c.y7 pk = c \/ c.y7 pk = .junk := by
 unfold C.y7
 split
 ·exact .inl rfl
 ·cases c.a1c _ <;> simp
theorem a5e {pk : List Nat} {c : C} (h : ∀ k ∈ pk, c.has k = false) : c.y7 pk = c := by
  unfold C.y7
  split
  · rfl
  · have : ∀ (l : List Nat), (∀ k ∈ l, c.has k = false) -> c.a1c l = false := by
      intro l
      induction l with
      | nil => intro _; rfl
      | cons k l ih => intro hl; simp only [C.a1c]; rw [hl k (by simp), ih fun k' hk' => hl k' (by simp [hk'])]; rfl
    rw [this _ h]
    rfl
def N9 : Nat -> Bool := fun _ => true
theorem a4t (D : Nat -> Bool) : ∀ (l m : List TR) (k : Nat) (x : SX), A8 D (l ++ m) k x = A8 D m (k + l.length) (A8 D l k x)
 | [], m, k, x => rfl
 | r :: l, m, k, x => by
  simp only [List.cons_append, A8, c1T]
  rw [a4t D l m (k + 1)]
  congr 1
  omega
theorem a6i {D : Nat -> Bool} {t : Nat} (fixed : Bool) : ∀ (n : Nat) (l : List TR), l.length = n -> ∀ (x : SX) (v : C), (A8 N9 l 0 x).sf t = v ->
    (∀ (j : Nat) (r : TR), l[j]? = some r -> (r.w t).isSome = true -> D j = true) ->
    ((fixed = true /\ ∀ (j : Nat) (r : TR), l[j]? = some r -> r.pk ≠ [] -> D j = true) \/ (v ≠ .junk /\ ∀ (j : Nat) (r : TR), l[j]? = some r -> v.y7 r.pk = v)) -> (A8 D l 0 x).sf t = v := by
  intro n
  induction n with
  | zero =>
    intro l hl x v h _ _
    have : l = [] := c1Z hl
    subst this
    exact h
  | succ n ih =>
    intro l hl x v h hw hp
    rcases List.eq_nil_or_concat l with h0 | ⟨l', r, h0⟩
    · subst h0; simp at hl
    have h0 : l = l' ++ [r] := by rw [h0, List.concat_eq_append]
    subst h0
    have hl' : l'.length = n := by simpa using hl
    have ih := ih l' hl'
    rw [a4t] at h ⊢
    simp only [A8, c2e, N9, if_true] at h ⊢
    have hlast : (l' ++ [r])[l'.length]? = some r := by simp
    have hpre : ∀ {j q}, l'[j]? = some q -> (l' ++ [r])[j]? = some q := fun {j q} hq => by rw [c1K (c1F.1 hq).1]; exact hq
    cases hwt : r.w t with
    | some c =>
      have hd := hw _ _ hlast (by rw [hwt]; rfl)
      rw [if_pos hd]
      simp only [TR.step, hwt, Option.getD_some] at h ⊢
      exact h
    | none =>
      simp only [TR.step, hwt, Option.getD_none] at h
      rcases hp with ⟨hf, hp⟩ | ⟨hnj, hp⟩
      · have h2 := ih x _ rfl (fun j q hq hs => hw j q (hpre hq) hs) (.inl ⟨hf, fun j q hq hne => hp j q (hpre hq) hne⟩)
        by_cases hd : D l'.length = true
        · rw [if_pos hd]
          simp only [TR.step, hwt, Option.getD_none]
          rw [h2]; exact h
        · rw [if_neg hd, h2]
          have : r.pk = [] := by
            cases hpk : r.pk with
            | nil => rfl
            | cons a b => exact absurd (hp _ _ hlast (by rw [hpk]; simp)) hd
          rw [this] at h
          exact h
      · have h1 : (A8 (fun _ => true) l' 0 x).sf t = v := by
          rcases b1U r.pk ((A8 (fun _ => true) l' 0 x).sf t) with h' | h'
          · rw [<- h']; exact h
          · exfalso; apply hnj; rw [<- h]; exact h'
        have h2 := ih x v h1 (fun j q hq hs => hw j q (hpre hq) hs) (.inr ⟨hnj, fun j q hq => hp j q (hpre hq)⟩)
        by_cases hd : D l'.length = true
        · rw [if_pos hd]
          simp only [TR.step, hwt, Option.getD_none]
          rw [h2]; exact hp _ _ hlast
        · rw [if_neg hd]; exact h2
theorem a3s {D : Nat -> Bool} {t : Nat} {v : C} : ∀ (l : List TR) (k : Nat) (x : SX), x.sf t = v -> (∀ j r, l[j]? = some r -> D (k + j) = true -> r.w t = none /\ v.y7 r.pk = v) -> (A8 D l k x).sf t = v
 | [], _, _, h, _ => h
 | r :: l, k, x, h, hp => by
  simp only [A8]
  refine a3s l (k + 1) _ ?_ fun j q hq hd => hp (j + 1) q (by simpa using hq) (by rw [show k + (j + 1) = k + 1 + j by omega]; exact hd)
  by_cases hd : D k = true
  ·rw [if_pos hd]
   obtain ⟨h1, h2⟩ := hp 0 r rfl hd
   simp only [TR.step, h1, Option.getD_none]
   rw [h]; exact h2
  ·rw [if_neg hd]; exact h
theorem b9L {D : Nat -> Bool} : ∀ (l : List TR) (k : Nat) (x : SX), (∀ j r, l[j]? = some r -> r.rs' ≠ none -> D (k + j) = true) -> (A8 D l k x).rs = (A8 N9 l k x).rs
 | [], _, _, _ => rfl
 | r :: l, k, x, h => by
  have gen : ∀ (l : List TR) (k : Nat) (x y : SX), x.rs = y.rs -> (∀ j r, l[j]? = some r -> r.rs' ≠ none -> D (k + j) = true) -> (A8 D l k x).rs = (A8 N9 l k y).rs := by
   intro l
   induction l with
   | nil => intro k x y h _; exact h
   | cons r l ih =>
    intro k x y h hh
    simp only [A8, N9, if_true]
    refine ih (k + 1) _ _ ?_ fun j q hq hne => by rw [show k + 1 + j = k + (j + 1) by omega]; exact hh (j + 1) q (by simpa using hq) hne
    cases hr : r.rs' with
    | none => split <;> simp [TR.step, hr, h]
    | some q => have hd := hh 0 r rfl (by rw [hr]; simp); rw [Nat.add_zero] at hd; rw [if_pos hd]; simp [TR.step, hr]
  exact gen (r :: l) k x x rfl h
theorem b2Y {D : Nat -> Bool} : ∀ (l : List TR) (k : Nat) (x : SX), (∀ j r, l[j]? = some r -> D (k + j) = true -> r.rs' = none) -> (A8 D l k x).rs = x.rs
 | [], _, _, _ => rfl
 | r :: l, k, x, h => by
  simp only [A8]
  rw [b2Y l (k + 1) _ fun j q hq hd => h (j + 1) q (by simpa using hq) (by rw [show k + (j + 1) = k + 1 + j by omega]; exact hd)]
  by_cases hd : D k = true
  ·rw [if_pos hd]
   have := h 0 r rfl hd
   simp [TR.step, this]
  ·rw [if_neg hd]
theorem b3J {D : Nat -> Bool} {Pr : List Res -> Prop} : ∀ (l : List TR) (k : Nat) (x : SX), Pr x.rs -> (∀ j r, l[j]? = some r -> D (k + j) = true -> ∀ q, r.rs' = some q -> Pr q) -> Pr (A8 D l k x).rs
 | [], _, _, h, _ => h
 | r :: l, k, x, h, hh => by
  simp only [A8]
  refine b3J l (k + 1) _ ?_ fun j q hq hd => hh (j + 1) q (by simpa using hq) (by rw [show k + (j + 1) = k + 1 + j by omega]; exact hd)
  split
  ·rename_i hd
   cases hr : r.rs' with
   | none => simpa [TR.step, hr] using h
   | some q => simpa [TR.step, hr] using hh 0 r rfl (by simpa using hd) q hr
  ·exact h
theorem b0D {D : Nat -> Bool} {t : Nat} : ∀ (l : List TR) (k : Nat) (x y : SX), x.pend t = y.pend t -> (∀ j r, l[j]? = some r -> r.pw t ≠ none -> D (k + j) = true) -> (A8 D l k x).pend t = (A8 N9 l k y).pend t
 | [], _, _, _, h, _ => h
 | r :: l, k, x, y, h, hh => by
  simp only [A8, N9, if_true]
  refine b0D l (k + 1) _ _ ?_ fun j q hq hne => by rw [show k + 1 + j = k + (j + 1) by omega]; exact hh (j + 1) q (by simpa using hq) hne
  cases hr : r.pw t with
  | none => split <;> simp [TR.step, hr, h]
  | some q => have hd := hh 0 r rfl (by rw [hr]; simp); rw [Nat.add_zero] at hd; rw [if_pos hd]; simp [TR.step, hr]
theorem a9j {D : Nat -> Bool} {t : Nat} : ∀ (l : List TR) (k : Nat) (x : SX), (∀ j r, l[j]? = some r -> D (k + j) = true -> r.pw t = none) -> (A8 D l k x).pend t = x.pend t
 | [], _, _, _ => rfl
 | r :: l, k, x, h => by
  simp only [A8]
  rw [a9j l (k + 1) _ fun j q hq hd => h (j + 1) q (by simpa using hq) (by rw [show k + (j + 1) = k + 1 + j by omega]; exact hd)]
  by_cases hd : D k = true
  ·rw [if_pos hd]
   have := h 0 r rfl hd
   simp [TR.step, this]
  ·rw [if_neg hd]
section
variable {P : Program} {ops : Array Oper} {Q : Exit -> Act -> World -> Prop} {Inv : SX -> Act -> World -> Prop} {tr : List TR} {x0 : SX}
def a3q (ops : Array Oper) (D : Nat -> Bool) : Prop := ∀ i o, ops[i]? = some o -> D i = true -> ∀ e ∈ o.after, Region.binds .any e = true -> D e.on = true
theorem b0s {listed : Array Bool} {i : Nat} (hs : listed.size = ops.size) (hi : i < ops.size) (hun : listed.getD i false = false) (hmin : ∀ j, j < i -> listed.getD j false = true)
  (hb : ∀ i o, ops[i]? = some o -> ∀ e ∈ o.after, Region.binds .any e = true -> e.on < i) : i ∈ Region.ready .any ops listed := by
 have ho : ops[i]? = some ops[i] := by simp [hi]
 refine mem_ready.2 ⟨?_, ops[i], ho, fun e he hbi => hmin _ (hb i _ ho e he hbi)⟩
 have : i < listed.size := by omega
 simp [this] at hun ⊢
 exact hun
theorem b7x (hlen : tr.length = ops.size) (hb : ∀ i o, ops[i]? = some o -> ∀ e ∈ o.after, Region.binds .any e = true -> e.on < i) (bef : Nat -> Nat -> Prop)
    (hbef : ∀ D, a3q ops D -> ∀ i j, bef i j -> D j = true -> D i = true)
    (hready : ∀ D i o, a3q ops D -> ops[i]? = some o -> (∀ e ∈ o.after, Region.binds .any e = true -> D e.on = true) -> ∀ j, bef j i -> D j = true)
    (hcomm : ∀ i j r q, i < j -> tr[i]? = some r -> tr[j]? = some q -> ¬ bef i j -> a8b r q)
    (hsem : ∀ i o r D, ops[i]? = some o -> tr[i]? = some r -> a3q ops D -> D i = false -> (∀ j, bef j i -> D j = true) -> ∀ (K : Act -> World -> Prop) a w, Inv (A8 D tr 0 x0) a w -> (∀ a' w', Inv (r.step (A8 D tr 0 x0)) a' w' -> K a' w') -> wpOp P ops Q i K a w)
    (hend : ∀ a w, Inv (A8 N9 tr 0 x0) a w -> Q .normal a w) :
    ∀ (fuel : Nat) (listed : Array Bool) (a : Act) (w : World), listed.size = ops.size -> listed.toList.count false = fuel -> a3q ops (fun j => listed.getD j false) -> Inv (A8 (fun j => listed.getD j false) tr 0 x0) a w ->
      wpAny P .any ops Q fuel listed a w := by
  have all_of : ∀ (listed : Array Bool), listed.size = ops.size -> listed.toList.count false = 0 -> ∀ j, j < ops.size -> listed.getD j false = true := by
    intro listed hs hc j hj
    have hjl : j < listed.size := by omega
    have hne : listed[j] ≠ false := fun e => by
      have : false ∈ listed.toList := by rw [<- e]; simp
      exact absurd (List.count_pos_iff.2 this) (by omega)
    simp [hjl]
    cases hv : listed[j] with | true => rfl | false => exact absurd hv hne
  have fin : ∀ (listed : Array Bool) (a : Act) (w : World), listed.size = ops.size -> listed.toList.count false = 0 -> Inv (A8 (fun j => listed.getD j false) tr 0 x0) a w -> Q .normal a w := by
    intro listed a w hs hc hI
    refine hend a w ?_
    rwa [a5B (D := fun j => listed.getD j false) (D' := N9) tr 0 x0 (fun j hj => by simp only [c2e, N9]; exact all_of listed hs hc j (by omega))] at hI
  intro fuel
  induction fuel with
  | zero =>
    intro listed a w hs hc hcl hI
    refine ⟨?_, fin listed a w hs hc hI⟩
    apply List.eq_nil_iff_forall_not_mem.2
    intro i hi
    obtain ⟨hun, o, ho, _⟩ := mem_ready.1 hi
    have hilt : i < ops.size := (Array.getElem?_eq_some_iff.1 ho).1
    have := all_of listed hs hc i hilt
    have hil : i < listed.size := by omega
    simp [hil] at this hun
    rw [this] at hun
    cases hun
  | succ fuel ih =>
    intro listed a w hs hc hcl hI
    refine ⟨fun hnil => ?_, fun i hi => ?_⟩
    · exfalso
      have hmem : false ∈ listed.toList := List.count_pos_iff.1 (by omega)
      have hex : ∃ i, i < ops.size /\ listed.getD i false = false := by
        obtain ⟨i, hi, he⟩ := List.getElem_of_mem hmem
        refine ⟨i, by simpa [<- hs] using hi, ?_⟩
        have : i < listed.size := by simpa using hi
        simp [this]
        simpa using he
      obtain ⟨i, hi, hmin⟩ : ∃ i, (i < ops.size /\ listed.getD i false = false) /\ ∀ j, j < i -> ¬ (j < ops.size /\ listed.getD j false = false) := by
        obtain ⟨i0, h0⟩ := hex
        induction i0 using Nat.strongRecOn with
        | _ i0 ih2 =>
          by_cases h : ∃ j, j < i0 /\ (j < ops.size /\ listed.getD j false = false)
          · obtain ⟨j, hj, hj'⟩ := h
            exact ih2 j hj hj'
          · exact ⟨i0, h0, fun j hj hj' => h ⟨j, hj, hj'⟩⟩
      have hr := b0s hs hi.1 hi.2 (fun j hj => by
        cases hg : listed.getD j false with
        | true => rfl
        | false => exact absurd ⟨by omega, hg⟩ (hmin j hj)) hb
      rw [hnil] at hr
      cases hr
    · obtain ⟨hun, o, ho, hall⟩ := mem_ready.1 hi
      have hilt : i < ops.size := (Array.getElem?_eq_some_iff.1 ho).1
      have hil : i < listed.size := by omega
      have hunf : listed.getD i false = false := by simp [hil] at hun ⊢; exact hun
      obtain ⟨r, hr⟩ : ∃ r, tr[i]? = some r := ⟨tr[i], by simp [hlen, hilt]⟩
      have hbi := hready _ i o hcl ho (fun e he hb' => hall e he hb')
      refine hsem i o r _ ho hr hcl hunf hbi _ a w hI fun a' w' hI' => ?_
      have hgi : (listed.setIfInBounds i true).getD i false = true := by simp [hil]
      have hgj : ∀ j, j ≠ i -> (listed.setIfInBounds i true).getD j false = listed.getD j false := fun j hne => getD_set_ne false (Ne.symm hne)
      refine ih (listed.setIfInBounds i true) a' w' (by simpa using hs) ?_ ?_ ?_
      · have : listed.toList.count false = (listed.setIfInBounds i true).toList.count false + 1 := by
          rw [Array.toList_setIfInBounds]
          have hli : i < listed.toList.length := by simpa using hil
          have he : listed.toList[i] = false := by simp [hil] at hunf; simpa using hunf
          have h1 := List.count_set (l := listed.toList) (a := true) (b := false) hli
          rw [he] at h1
          have hpos : 0 < listed.toList.count false := List.count_pos_iff.2 (by rw [<- he]; exact c1N hli)
          rw [show (false == false) = true from rfl, show (true == false) = false from rfl] at h1
          simp only [if_true, c2j, if_false] at h1
          omega
        omega
      · intro j oj hj hdj e he hbe
        by_cases hji : j = i
        · subst hji
          rw [ho] at hj
          injection hj with hj
          subst hj
          by_cases hei : e.on = j
          · rw [hei]; exact hgi
          · show (listed.setIfInBounds j true).getD e.on false = true
            rw [hgj _ hei]; exact hall e he hbe
        · have hdj' : listed.getD j false = true := by rw [<- hgj j hji]; exact hdj
          by_cases hei : e.on = i
          · rw [hei]; exact hgi
          · show (listed.setIfInBounds i true).getD e.on false = true
            rw [hgj _ hei]; exact hcl j oj hj hdj' e he hbe
      · rw [b0M (D := fun j => listed.getD j false) (D' := fun j => (listed.setIfInBounds i true).getD j false) (r := r) hunf hgi hgj tr 0 x0 (c1H _) (by simpa using hr) (fun j q hij hq hd => hcomm i j r q hij hr (by simpa using hq) fun hbij => ?_)]
        · exact hI'
        · have := hbef _ hcl i j hbij hd
          rw [hunf] at this
          cases this
end
def a0K (E : Ctx) (rs : List Res) (p : Bool) (f : Nat) (args : List C) (K : C -> Prop) : Prop := ∃ r, P6 E rs p f args r /\ K r
def evQ (E : Ctx) (ov : Operand -> C) (rs : List Res) (p : Bool) (o : IOp) (K : C -> Prop) : Prop :=
 match o with
 | .call f args => a2a p ov args /\ a0K E rs p f (a0L ov args) K
 | .X6 x args => req p (ov x) /\ a2a p ov args /\ match strip (ov x) with
  | .v (.func (.func f) ⟨[]⟩ ⟨caps⟩) => callable E.P f = true /\ a0K E rs p f (a0L ov args ++ caps.map .v) K
  | .clo f caps => callable E.P f = true /\ a0K E rs p f (a0L ov args ++ caps) K
  | _ => False
 | .bsl _ sz n zero parts => Y3 zero = true /\ zero.length = sz /\ 0 < sz /\ a7p p ov parts /\ a1j n sz (L6 ov parts) /\ (n * sz <= 16777216 /\ n <= 16777216) /\ K (.sl sz (M4 (List.replicate n (zero.map .v)) (L6 ov parts)))
 | .a2W _ => K .nl
 | .a2X _ bytes zero l c => Y3 zero = true /\ 0 < zero.length /\ req p (ov l) /\ req p (ov c) /\ match strip (ov l), strip (ov c) with
  | .v (.int .i64 l), .v (.int .i64 c) => (p = true -> 0 <= l /\ l <= c /\ c <= 140737488355328 /\ c.toNat * bytes <= 140737488355328) /\ K (.sl zero.length (List.replicate l.toNat (zero.map .v)))
  | _, _ => False
 | o => E8 ov rs p o K
def KgP (p : Bool) (K : C -> Prop) (s : C) : Prop := K (.g p s)
def a8E (E : Ctx) (fr : List (Nat × C)) (rs : List Res) (o : D9) (K : C -> Prop) : Prop :=
 match o.guard with
 | none => evQ E (opv fr) rs true o.op K
 | some (s, want) => match slot fr s with
  | .v (.bool b) => evQ E (opv fr) rs (b == want) o.op (KgP (b == want) K)
  | .g q (.v (.bool b)) => evQ E (opv fr) rs (q && (b == want)) o.op (KgP (q && (b == want)) K)
  | _ => False
def a8G (ov : Operand -> C) (rs : List Res) (p : Bool) (o : IOp) (K : C -> Prop) : Prop :=
 match o with
 | .bsl _ sz n zero parts => Y3 zero = true /\ zero.length = sz /\ 0 < sz /\ a7p p ov parts /\ a1j n sz (L6 ov parts) /\ (n * sz <= 16777216 /\ n <= 16777216) /\ K (.sl sz (M4 (List.replicate n (zero.map .v)) (L6 ov parts)))
 | o => E8 ov rs p o K
def a4Z (fr : List (Nat × C)) (rs : List Res) (o : D9) (K : C -> Prop) : Prop :=
 match o.guard with
 | none => a8G (opv fr) rs true o.op K
 | some (s, want) => match slot fr s with
  | .v (.bool b) => a8G (opv fr) rs (b == want) o.op (KgP (b == want) K)
  | .g q (.v (.bool b)) => a8G (opv fr) rs (q && (b == want)) o.op (KgP (q && (b == want)) K)
  | _ => False
def C.nj : C -> Bool
 | .junk => false
 | _ => true
def opsV (fr : List (Nat × C)) (o : D9) : List C := o.op.uses.map (opv fr) ++ (match o.guard with
 | some (s, _) => [slot fr s]
 | none => [])
def njL : List C -> Bool
 | [] => true
 | c :: r => c.nj && njL r
def a3f (pk : List Nat) : List C -> Bool
 | [] => true
 | c :: r => !(c.a1c pk) && a3f pk r
def leC : List C -> List C -> Prop
 | [], [] => True
 | .junk :: a, _ :: b => leC a b
 | c :: a, d :: b => c = d /\ leC a b
 | _, _ => False
theorem Y5 : ∀ cs : List C, leC cs cs
 | [] => trivial
 | c :: cs => by cases c <;> simp only [leC, true_and] <;> exact Y5 cs
def F3 : List Res -> List Res -> Prop
 | [], _ => True
 | .gone :: h, _ :: r => F3 h r
 | .box t cs :: h, .box t' cs' :: r => (t = t' /\ leC cs cs') /\ F3 h r
 | x :: h, y :: r => x = y /\ F3 h r
 | _ :: _, [] => False
def a1v (t : Nat) : List (Nat × Pd) -> Option Pd
 | [] => none
 | (s, p) :: r => bif s == t then some p else a1v t r
def rmP (t : Nat) : List (Nat × Pd) -> List (Nat × Pd)
 | [] => []
 | (s, p) :: r => bif s == t then rmP t r else (s, p) :: rmP t r
structure DS where
 fr : List (Nat × C)
 rs : List Res
 pend : List (Nat × Pd)
 fv : List C
 pk : List Nat
def KQd (x : DS) (d : Option Nat) (K : DS -> Prop) (s : C) : Prop := K { x with fr := M8 x.fr d s }
def KFd (x : DS) (d : Option Nat) (o : D9) (K : DS -> Prop) (s : C) : Prop := K { x with fr := M8 x.fr d s, fv := s :: (opsV x.fr o ++ x.fv) }
def KLd (x : DS) (d : Option Nat) (o : D9) (K : DS -> Prop) (s : C) : Prop := K { x with fr := M8 x.fr d s, fv := opsV x.fr o ++ x.fv }
def KMd (x : DS) (d : Option Nat) (o : D9) (K : DS -> Prop) (s : C) : Prop := a3f x.pk [s] = true /\ K { x with fr := M8 x.fr d s, fv := opsV x.fr o ++ x.fv }
def KEd (E : Ctx) (hid : List Res) (cl sk : Bool) (x : DS) (d : Option Nat) (K : DS -> Prop) (s : C) (rs' : List Res) (pk : List Nat) : Prop := (sk = false -> F3 hid rs') /\ (cl = true -> pk = []) /\ a3N E pk /\ K ⟨M8 (a0A pk x.fr) d s, rs', x.pend, x.fv, pk ++ x.pk⟩
def a5O (E : Ctx) (hid : List Res) (t : DT) (o : D9) (x : DS) (K : DS -> Prop) : Prop :=
 match t with
 | .q => a8E E x.fr x.rs o (KQd x o.dst K)
 | .f => njL (opsV x.fr o) = true /\ a4Z x.fr hid o (KFd x o.dst o K)
 | .l => njL (opsV x.fr o) = true /\ a4Z x.fr hid o (KLd x o.dst o K)
 | .m => njL (opsV x.fr o) = true /\ a4Z x.fr hid o (KMd x o.dst o K)
 | .n => njL (opsV x.fr o) = true /\ a4Z x.fr [] o (KFd x o.dst o K)
 | .a => match o.op, o.dst with
  | .alloc t zero, some ta => Y3 zero = true /\ K { x with fr := M8 x.fr (some ta) .junk, pend := (ta, ⟨t, zero⟩) :: x.pend }
  | _, _ => False
 | .e none sk => evE E (opv x.fr) x.rs o.op (KEd E hid (a7C o.op) sk x o.dst K)
 | .e (some ta) sk => match a1v ta x.pend with
  | some p => evE E (opv ((ta, .bp x.rs.length 0) :: x.fr)) (x.rs ++ [.box p.ty (p.zero.map .v)]) o.op (KEd E hid (a7C o.op) sk { x with fr := (ta, .bp x.rs.length 0) :: x.fr, pend := rmP ta x.pend } o.dst K)
  | none => False
def evD (E : Ctx) (hid : List Res) : List DT -> List D9 -> DS -> (St -> Prop) -> Prop
 | [], [], x, K => x.pend = [] /\ a3f x.pk x.fv = true /\ K ⟨x.fr, x.rs⟩
 | t :: ts, o :: r, x, K => a5O E hid t o x fun x' => evD E hid ts r x' K
 | _, _, _, _ => False
def KRD (E : Ctx) (hid : List Res) (ts : List DT) (r : List D9) (K : St -> Prop) (x : DS) : Prop := evD E hid ts r x K
theorem b8e (E : Ctx) (hid : List Res) (x : DS) (K : St -> Prop) : evD E hid [] [] x K = (x.pend = [] /\ a3f x.pk x.fv = true /\ K ⟨x.fr, x.rs⟩) := rfl
theorem b7h (E : Ctx) (hid : List Res) (t : DT) (ts : List DT) (o : D9) (r : List D9) (x : DS) (K : St -> Prop) : evD E hid (t :: ts) (o :: r) x K = a5O E hid t o x (KRD E hid ts r K) := rfl
section
variable {E : Ctx} {P : Program} {ν : List Value} {rs : List Res} {a : Act} {w : World} {av own0 : Nat -> Prop} {n0 : Nat} {ov : Operand -> C}
theorem a8r {O : Nat -> Prop} (z : List Value) : ∀ n, FzL w O (List.replicate n (z.map C.v)).flatten (List.replicate n z).flatten
 | 0 => by simp [FzL]
 | n + 1 => by rw [List.replicate_succ, List.replicate_succ, List.flatten_cons, List.flatten_cons]; exact (FzL.vs _).append (a8r z n)
theorem b4v {O : Nat -> Prop} {e sz n c : Nat} {es : List (List C)} {us zs : List Value} (hO : ∀ b, O b -> b < w.heap.size) (hes : es.length = n) (hl : ∀ q ∈ es, q.length = sz) (hF : FzL w O es.flatten us) (h1 : ∀ u ∈ us, u.oneCell' = true) (hz : zs.take (n * sz) = us) (hnc : n <= c) (hcm : c <= maxLen) :
  Fz (w.alloc (.cells zs.toArray e)) O (.sl sz es) (.slice (some ⟨w.heap.size, 0, none⟩) n c) := by
 have hk : Keeps O w O (w.alloc (.cells zs.toArray e)) := fun b hb hn => ⟨by simp; omega, hn, Below.heap_alloc w _ b hb⟩
 simp only [Fz]
 refine ⟨_, c, by rw [hes], by omega, hcm, fun h0 => ⟨_, rfl, by simp, fun hb => by have := hO _ hb; simp at this, ?_⟩⟩
 have hul : us.length = n * sz := by rw [hF.length, P8 hl, hes]
 have hcell : ∀ (j : Nat) (v : Value), us[j]? = some v -> (w.alloc (.cells zs.toArray e)).cell? ((⟨w.heap.size, 0, none⟩ : Addr).add j) = some v := fun j v hv => by
  rw [G5, c2e, cell_of_row _ w.heap.size j _ _ _ (heap_alloc_new w _)]
  rw [<- hz, List.getElem?_take] at hv
  split at hv
  ·simpa using hv
  ·cases hv
 have hF' := FzL.keep hk hF
 refine FzE.of fun k q hq => ⟨hl q (c1A hq), ?_⟩
 have hseg := a2p hl hq
 have hsub : FzL (w.alloc (.cells zs.toArray e)) O q ((us.drop (k * sz)).take sz) := by
  have := (hF'.drop (k * sz)).take sz
  rwa [hseg] at this
 refine FzA.of hsub (fun u hu => h1 u (List.mem_of_mem_drop (List.mem_of_mem_take hu))) fun i v hv => ?_
 rw [List.getElem?_take] at hv
 split at hv
 ·rw [c2m] at hv
  rw [c2e]
  exact hcell _ v hv
 ·cases hv
def Yq (P : Program) (ν : List Value) (w : World) (O : Nat -> Prop) (a : Act) (oo : Oper) (s : C) : Prop :=
 ∀ (K : Act -> World -> Prop) (Q : Exit -> Act -> World -> Prop), (∀ y w', Below w.heap.size w w' -> Den ν w' O s y -> K (a.put oo.dst y) w') -> oo.wp P a w K Q
theorem Yl.yq {O : Nat -> Prop} {oo : Oper} {s : C} (h : Yl P ν w O a oo s) : Yq P ν w O a oo s := by
 intro K Q hK
 obtain ⟨y, hd, hrun⟩ := h
 unfold Oper.wp
 rw [hrun]
 exact hK y w (Below.refl _ _) hd
set_option maxHeartbeats 1000000 in
theorem a6a {p : Bool} {o : IOp} {K : C -> Prop} {oo : Oper} (his : Is E.P oo.type oo.op o) (h : evQ E ov rs p o K) :
    ∃ s, K s /\ ∀ av ν (a : Act) w, RG av E.own0 E.w0.heap.size ν rs w -> (∀ b, E.av b -> av b) -> Frm E.own0 E.w0 w -> (∀ x ∈ o.uses, Den ν w (OO av rs ν) (ov x) (a.eval x)) -> p = true -> Yq E.P ν w (OO av rs ν) a oo s := by
  have pure_case : E8 ov rs p o K -> ∃ s, K s /\ ∀ av ν (a : Act) w, RG av E.own0 E.w0.heap.size ν rs w -> (∀ b, E.av b -> av b) -> Frm E.own0 E.w0 w -> (∀ x ∈ o.uses, Den ν w (OO av rs ν) (ov x) (a.eval x)) -> p = true -> Yq E.P ν w (OO av rs ν) a oo s := fun h => by
    obtain ⟨s, hs, hy⟩ := a2F his h
    exact ⟨s, hs, fun av ν a w hR _ _ hO hp => (hy ν a w _ hR.hr hO hp).yq⟩
  have call_case : ∀ (f : Nat) (cs : List C) (r : C), P6 E rs p f cs r -> K r -> (∀ av ν (a : Act) w, (∀ x ∈ o.uses, Den ν w (OO av rs ν) (ov x) (a.eval x)) -> p = true -> ∃ vs : List Value, (execOp a.eval oo).run E.P w = .ok (.enter f vs.toArray) w /\ l6 ν w (OO av rs ν) cs vs) ->
      ∃ s, K s /\ ∀ av ν (a : Act) w, RG av E.own0 E.w0.heap.size ν rs w -> (∀ b, E.av b -> av b) -> Frm E.own0 E.w0 w -> (∀ x ∈ o.uses, Den ν w (OO av rs ν) (ov x) (a.eval x)) -> p = true -> Yq E.P ν w (OO av rs ν) a oo s := fun f cs r hP hk hrun =>
    ⟨r, hk, fun av ν a w hR hav hF hO hp K' Q hK => by
      obtain ⟨vs, h1, h2⟩ := hrun av ν a w hO hp
      unfold Oper.wp
      rw [h1]
      refine (hP hp av ν w vs hR hav hF h2).mono ?_
      rintro e w' ⟨y, rfl, hb, hd⟩
      exact hK y w' hb hd⟩
  have ltO : ∀ {av ν w}, RG av E.own0 E.w0.heap.size ν rs w -> ∀ b, OO av rs ν b -> b < w.heap.size := fun hR b hb => by
    rcases hb with hb | hb
    · exact hR.av b hb
    · exact (hR.low b hb).1
  cases o with
  | call f args =>
    obtain ⟨h1, r, hP, hk⟩ := h
    refine call_case f _ r hP hk fun av ν a w hO hp => ?_
    obtain ⟨dst, op, ty, pos, after, guard⟩ := oo
    simp only at his
    cases his with
    | call c f hcc hcl => exact ⟨_, by rw [a5H hcc, J3 hcl], Q9 hp h1 hO⟩
  | X6 x args =>
    obtain ⟨h0, h1, h⟩ := h
    have hO' : ∀ {av ν w} {a : Act}, (∀ y ∈ (IOp.X6 x args).uses, Den ν w (OO av rs ν) (ov y) (a.eval y)) -> ∀ y ∈ args, Den ν w (OO av rs ν) (ov y) (a.eval y) := fun hO y hy => hO y (by simp only [IOp.uses, List.mem_cons]; exact .inr hy)
    split at h
    · rename_i f caps hx
      obtain ⟨hcl, r, hP, hk⟩ := h
      refine call_case f _ r hP hk fun av ν a w hO hp => ?_
      have e1 := opS hp (hO x (by simp [IOp.uses])) h0
      rw [hx] at e1
      have e1 := y9 e1
      obtain ⟨dst, op, ty, pos, after, guard⟩ := oo
      simp only at his
      cases his with
      | X6 c x hc => exact ⟨_, by rw [a1o hc e1, J3 hcl], (Q9 hp h1 (hO' hO)).append (l6.vs _)⟩
    · rename_i f caps hx
      obtain ⟨hcl, r, hP, hk⟩ := h
      refine call_case f _ r hP hk fun av ν a w hO hp => ?_
      have e1 := opS hp (hO x (by simp [IOp.uses])) h0
      rw [hx] at e1
      simp only [Den] at e1
      obtain ⟨vs, hD, e1⟩ := e1
      obtain ⟨dst, op, ty, pos, after, guard⟩ := oo
      simp only at his
      cases his with
      | X6 c x hc => exact ⟨_, by rw [a1o hc e1, J3 hcl], (Q9 hp h1 (hO' hO)).append hD⟩
    · exact h.elim
  | bsl e sz0 n zero0 ps0 =>
    obtain ⟨dst, op, ty, pos, after, guard⟩ := oo
    simp only at his
    cases his with
    | bsl t _ _ ps i z ht hi hz hn hzs =>
    obtain ⟨h1, h1l, h1p, h2, h3, ⟨h5, h6⟩, h⟩ := h
    have hzsz : 0 < z.cells.size := by rw [hzs]; exact h1p
    obtain ⟨hl2, hg2⟩ := a5h h2
    have hrl : ∀ q ∈ List.replicate n (z.cells.toList.map C.v), q.length = i.size := fun q hq => by rw [c2a hq]; simpa using hzs
    obtain ⟨p1, p2, p3, p4⟩ := a5a (L6 ov ps.toList) (List.replicate n (z.cells.toList.map C.v)) n (by simp) hrl h3
    refine ⟨_, h, fun av ν a w hR hav hF hO hp => ?_⟩
    obtain ⟨us, hf, hD⟩ := a2E (ν := ν) (w := w) (O := OO av rs ν) (fun j => some (j * i.size, i.size)) (ps.toList.map fun (j, x) => (j, a.eval x)) ((L6 ov ps.toList).map fun (j, c) => (j * i.size, i.size, c)) _ _
      (by simp [hl2]) (fun j f v hj => by
        simp only [c2n, Option.map_eq_some_iff] at hj
        obtain ⟨⟨f', x⟩, hj, he⟩ := hj
        simp only [Prod.mk.injEq] at he
        obtain ⟨rfl, rfl⟩ := he
        obtain ⟨hrq, hpv⟩ := hg2 j _ x hj
        have hmem : x ∈ (IOp.bsl e i.size n z.cells.toList ps.toList).uses := List.mem_map.2 ⟨_, c1A hj, rfl⟩
        exact ⟨_, _, _, by rw [c2n, hpv]; rfl, rfl, a1q (opS hp (hO x hmem) hrq) (a5T h3 j _ _ hpv)⟩) ((a8r z.cells.toList n).den ν) p2
    rw [p1] at hD
    have hcl : C.clL (M4 (List.replicate n (z.cells.toList.map C.v)) (L6 ov ps.toList)).flatten = true := b3h (a4n h3 fun e he => by rw [c2a he]; exact b7C _)
    have hon : C.ones (M4 (List.replicate n (z.cells.toList.map C.v)) (L6 ov ps.toList)).flatten = true := a9s (a3d h3 fun e he => by rw [c2a he]; exact b2E h1)
    have hul : us.length = n * i.size := by rw [hD.length, P8 p4, p3]
    have hrun : (execOp a.eval { dst, op := .buildSlice t n ps, type := ty, pos, after, guard }).run E.P w = .ok (.value (.slice (some ⟨w.heap.size, 0, none⟩) n n)) (w.alloc (.cells us.toArray e)) := by
      have hzr : (zeroValue e).run E.P w = .ok z w := by simp [zeroValue, typeInfo, hi, hz]
      have hn' : ¬ n * i.size > 2 ^ 24 := by omega
      have hzf := a1O z.cells n hzsz
      rw [hzs] at hzf
      have hze : ((Array.range (n * i.size)).map fun j => z.cells[j % z.cells.size]!) = (List.replicate n z.cells.toList).flatten.toArray := by
        apply Array.ext'
        rw [hzs, hzf]
      have e1 : (ps.map fun (i, x) => (i, a.eval x)).toList = ps.toList.map fun (i, x) => (i, a.eval x) := by simp
      simp only [execOp, Instr.buildSlice, Sem.run_bind, run_underlying ht w, Result.andThen_ok, sizeOf, typeInfo, run_program, hi, Sem.run_pure, hn', if_false, hn, hzr, hze, e1, hf]
      simp [newRow]
    intro K' Q hK
    unfold Oper.wp
    rw [hrun]
    refine hK _ _ (P7 w _) ?_
    refine Fz.den ν (b4v (ltO hR) p3 p4 (hD.fz hcl) (a2v hD hon) ?_ (c1I _) (by simp only [maxLen]; omega))
    rw [<- hul]; exact c1U
  | a2W e =>
    obtain ⟨dst, op, ty, pos, after, guard⟩ := oo
    simp only at his
    cases his with
    | a2W t _ ps i ht hi hps =>
    have hps0 : ps = #[] := Array.eq_empty_of_size_eq_zero hps
    subst hps0
    refine ⟨_, h, fun av ν a w hR hav hF hO hp K' Q hK => ?_⟩
    have hrun : (execOp a.eval { dst, op := .buildSlice t 0 #[], type := ty, pos, after, guard }).run E.P w = .ok (.value (.slice (some ⟨w.heap.size, 0, none⟩) 0 0)) (w.alloc (.cells #[] e)) := by
      simp [execOp, Instr.buildSlice, run_underlying ht w, sizeOf, typeInfo, hi, Instr.fill, newRow, show (Array.range 0 : Array Nat) = #[] from rfl]
    unfold Oper.wp
    rw [hrun]
    exact hK _ _ (P7 w _) ⟨_, rfl⟩
  | a2X e by0 zero0 l c =>
    obtain ⟨dst, op, ty, pos, after, guard⟩ := oo
    simp only at his
    cases his with
    | a2X t _ _ _ i z ht hi hz hzs h0 =>
    obtain ⟨h1, h2, h3, h4, h⟩ := h
    have hzsz : 0 < z.cells.size := by simpa using h2
    have hzl : z.cells.toList.length = i.size := by simpa using hzs
    split at h
    · rename_i lv cv hl hc
      obtain ⟨hb, h⟩ := h
      refine ⟨_, h, fun av ν a w hR hav hF hO hp => ?_⟩
      obtain ⟨b0, b1, b2, b3⟩ := hb hp
      have e1 := opS hp (hO l (by simp [IOp.uses])) h3
      have e2 := opS hp (hO c (by simp [IOp.uses])) h4
      rw [hl] at e1
      rw [hc] at e2
      have e1 := y9 e1
      have e2 := y9 e2
      have hlen : ∀ n, (List.replicate n z.cells.toList).flatten.length = n * i.size := fun n => by
        rw [P8 (sz := i.size) (fun q hq => by rw [c2a hq]; exact hzl), List.length_replicate]
      have htk : ((List.replicate cv.toNat z.cells.toList).flatten.take (lv.toNat * i.size)) = (List.replicate lv.toNat z.cells.toList).flatten := by
        have : List.replicate cv.toNat z.cells.toList = List.replicate lv.toNat z.cells.toList ++ List.replicate (cv.toNat - lv.toNat) z.cells.toList := by
          rw [List.replicate_append_replicate]; congr 1; omega
        rw [this, List.flatten_append, <- hlen lv.toNat]
        exact List.take_left
      have hone : ∀ u ∈ (List.replicate lv.toNat z.cells.toList).flatten, u.oneCell' = true := fun u hu => by
        obtain ⟨q, hq, hu⟩ := List.mem_flatten.1 hu
        rw [c2a hq] at hu
        exact a0j h1 u hu
      have hzf := a1O z.cells cv.toNat hzsz
      rw [hzs] at hzf
      have hze : ((Array.range (cv.toNat * i.size)).map fun j => z.cells[j % z.cells.size]!) = (List.replicate cv.toNat z.cells.toList).flatten.toArray := by
        apply Array.ext'
        rw [hzs, hzf]
      have hb' : (i.bytes : Int) * cv <= 281474976710656 := by
        have h3 : (((i.bytes * cv.toNat : Nat) : Int)) <= 140737488355328 := by rw [Nat.mul_comm]; omega
        rw [Int.natCast_mul, show ((cv.toNat : Nat) : Int) = cv by omega] at h3
        omega
      have hrun := run_make (P := E.P) w t e i z ht hi hz .i64 .i64 lv cv b0 b1 hb' (by omega)
      unfold madeCells at hrun
      rw [hze] at hrun
      intro K' Q hK
      have hrun' : (execOp a.eval { dst, op := .makeSlice t l c, type := ty, pos, after, guard }).run E.P w = .ok (.value (.slice (some ⟨w.heap.size, 0, none⟩) lv.toNat cv.toNat)) (w.alloc (.cells (List.replicate cv.toNat z.cells.toList).flatten.toArray e)) := by
        simp only [execOp, e1, e2, Sem.run_bind, hrun]
        rfl
      unfold Oper.wp
      rw [hrun']
      refine hK _ _ (P7 w _) ?_
      rw [hzl]
      exact Fz.den ν (b4v (ltO hR) (by simp) (fun q hq => by rw [c2a hq]; simpa using hzs) (a8r _ _) hone htk (by omega) (by simp only [maxLen]; omega))
    · exact h.elim
  | _ => exact pure_case h
end
def trQ (d : Option Nat) (s : C) : TR := ⟨fun t => if d = some t then some s else none, [], none, fun _ => none⟩
def trA (ta : Nat) (p : Pd) : TR := ⟨fun t => if t = ta then some .junk else none, [], none, fun t => if t = ta then some (some p) else none⟩
def trE (d : Option Nat) (s : C) (rs' : List Res) (pk : List Nat) (ad : Option (Nat × C)) : TR :=
 ⟨fun t => if d = some t then some s else match ad with
  | some (ta, c) => if t = ta then some (c.y7 pk) else none
  | none => none, pk, some rs', fun t => match ad with
  | some (ta, _) => if t = ta then some none else none
  | none => none⟩
def avP (E : Ctx) (B : Nat -> Nat) (pend : Nat -> Option Pd) (b : Nat) : Prop := E.av b \/ ∃ t p, pend t = some p /\ B t = b
structure a2O (E : Ctx) (B : Nat -> Nat) (pend : Nat -> Option Pd) (a : Act) (w : World) : Prop where
 cell : ∀ t p, pend t = some p -> a.tmps.getD t undef = .pointer (some ⟨B t, 0, none⟩) /\ w.heap[B t]? = some (.cells p.zero.toArray p.ty (0, 0)) /\ E.w0.heap.size <= B t /\ Y3 p.zero = true
 inj : ∀ t t' p p', pend t = some p -> pend t' = some p' -> t ≠ t' -> B t ≠ B t'
 av0 : ∀ b, E.av b -> b < E.w0.heap.size
def b0b (E : Ctx) (x : SX) (a : Act) (w : World) : Prop := ∃ ν B, G6 { E with av := avP E B x.pend } ν x.sf x.rs a w /\ a2O E B x.pend a w
def a4b (P : Program) (ops : Array Oper) (Q : Exit -> Act -> World -> Prop) (o : Oper) (K : Act -> World -> Prop) (a : Act) (w : World) : Prop :=
 if Region.wanted o (yielded ops a.tmps) then o.wp P a w K Q \/ (o.asks P a w /\ LetsOut Q) else K (a.put o.dst undef) w
def Sem (E : Ctx) (ops : Array Oper) (o : Oper) (r : TR) (y : SX) : Prop :=
 (∀ t p, y.pend t = some p -> o.dst ≠ some t) -> ∀ (K : Act -> World -> Prop) (Q : Exit -> Act -> World -> Prop) a w, b0b E y a w -> (∀ a' w', b0b E (r.step y) a' w' -> K a' w') -> a4b E.P ops Q o K a w
def agree (ops : Array Oper) (o : Oper) (x y : SX) : Prop := ∀ t ∈ o.looksAt ops, y.sf t = x.sf t
section
variable {E : Ctx} {ν ν' : List Value} {a : Act} {w w' : World}
theorem b2Q {P : Program} {ty : TypeId} {op : Op} {io : IOp} (h : Is P ty op io) : (∀ x ∈ io.uses, x ∈ op.operands.toList) /\ ∀ t, Operand.tmp t ∈ op.operands.toList -> Operand.tmp t ∈ io.uses := by
 cases h with
 | call c f hc hcl =>
  constructor
  ·intro x hx; simp only [Op.operands, Call.operands, hc]; simpa [IOp.uses] using Or.inr hx
  ·intro t ht; simp only [Op.operands, Call.operands, hc] at ht; simpa [IOp.uses] using ht
 | X6 c x hc =>
  constructor
  ·intro y hy; simp only [Op.operands, Call.operands, hc]; simpa [IOp.uses] using hy
  ·intro t ht; simp only [Op.operands, Call.operands, hc] at ht; simpa [IOp.uses] using ht
 | b6K c t x hc hat ha ht => constructor <;> intro y hy <;> simp_all [Op.operands, Call.operands, IOp.uses]
 | b7l c t e x hc hat ha ht => constructor <;> intro y hy <;> simp_all [Op.operands, Call.operands, IOp.uses]
 | app c t e i s x hc hat ha ht hi z hz hzs => constructor <;> intro y hy <;> simp_all [Op.operands, Call.operands, IOp.uses]
 | cap c t e x hc hat ha ht => constructor <;> intro y hy <;> simp_all [Op.operands, Call.operands, IOp.uses]
 | a4u c t t' kn e i s x hc hat ha ht ht' hi z hz hzs h0 => constructor <;> intro y hy <;> simp_all [Op.operands, Call.operands, IOp.uses]
 | a4d c f x y b hc hcl ha => constructor <;> intro z hz <;> simp_all [Op.operands, Call.operands, IOp.uses]
 | a5R t e n ie x ht hi => constructor <;> intro y hy <;> simpa [IOp.uses, Op.operands] using hy
 | apps c t t' e i s x hc hat ha ht ht' hi hz hs1 hb1 => constructor <;> intro y hy <;> simp_all [Op.operands, Call.operands, IOp.uses]
 | max c x y hc ha => constructor <;> intro z hz <;> simp_all [Op.operands, Call.operands, IOp.uses]
 | min c x y hc ha => constructor <;> intro z hz <;> simp_all [Op.operands, Call.operands, IOp.uses]
 | build t ps fields i z r ht hi hz hall hp =>
  have : r.map (·.2.2) = ps.toList.map (·.2) := by
   have gen : ∀ (l : List (Nat × Operand)) (r : List (Nat × Nat × Operand)), partsOf P fields l = some r -> r.map (·.2.2) = l.map (·.2) := by
    intro l
    induction l with
    | nil => intro r h; simp [partsOf] at h; subst h; rfl
    | cons q l ih =>
     obtain ⟨f, x⟩ := q
     intro r h
     simp only [partsOf] at h
     split at h
     ·split at h
      ·rename_i hi' r' hr hrr
       injection h with h
       subst h
       simp [ih _ hrr]
      ·cases h
     ·cases h
   exact gen _ _ hp
  constructor <;> intro y hy <;> simp only [IOp.uses, this, Op.operands] at hy ⊢ <;> simpa using hy
 | bsl t e n ps i z ht hi hz hn hzs => constructor <;> intro y hy <;> simp only [IOp.uses, Op.operands] at hy ⊢ <;> simpa using hy
 | bnd f first caps x hf hf2 =>
  obtain ⟨caps⟩ := caps
  obtain ⟨first⟩ := first
  simp only at hf hf2
  subst hf hf2
  constructor <;> intro y hy <;> simp only [IOp.uses, Op.operands] at hy ⊢ <;> simpa using hy
 | clo f first caps hf =>
  have hf0 : first = #[] := Array.eq_empty_of_size_eq_zero hf
  subst hf0
  constructor <;> intro y hy <;> simp only [IOp.uses, Op.operands] at hy ⊢ <;> simpa using hy
 | a5n t e x lo hi mx ie ht hi' hb =>
  obtain ⟨rfl, ⟨k1, rfl⟩, ⟨k2, rfl⟩⟩ : lo = none /\ (∃ k, hi = some (.const (.int k 0))) /\ ∃ k, mx = .const (.int k 0) := by
   unfold a5k at hb
   split at hb
   ·rename_i e1 e2 e3
    injection e3 with e3
    exact ⟨rfl, ⟨_, rfl⟩, ⟨_, e3⟩⟩
   ·cases hb
  constructor <;> intro y hy <;> simp [IOp.uses, Op.operands] at hy ⊢ <;> simp [hy]
 | a7s t x lo hi ht => constructor <;> intro y hy <;> cases lo <;> cases hi <;> simp [IOp.uses, Op.operands] at hy ⊢ <;> simpa using hy
 | a3z t e ie x lo hi ht hi' => constructor <;> intro y hy <;> cases lo <;> cases hi <;> simp [IOp.uses, Op.operands] at hy ⊢ <;> simpa using hy
 | raw o => constructor <;> intro y hy <;> simpa [IOp.uses] using hy
 | a2W t e ps i ht hi hps =>
  have hp0 : ps = #[] := Array.eq_empty_of_size_eq_zero hps
  subst hp0
  constructor <;> intro y hy <;> simp [IOp.uses, Op.operands] at hy
 | a2H t e str hk => constructor <;> intro y hy <;> simp [IOp.uses, Op.operands] at hy ⊢
 | _ => constructor <;> intro y hy <;> simp [IOp.uses, Op.operands] at hy ⊢ <;> first | exact hy | simp [hy]
theorem b4y {ops : Array Oper} {o : Oper} {t : Nat} (h : Operand.tmp t ∈ o.op.operands.toList) : t ∈ o.looksAt ops := List.mem_append_left _ (List.mem_filterMap.2 ⟨.tmp t, h, rfl⟩)
theorem a6S {ops : Array Oper} {o : Oper} {j s : Nat} {want : Bool} (hg : o.guard = some (j, want)) (hs : (ops[j]?).bind (·.dst) = some s) : s ∈ o.looksAt ops := by
 unfold Oper.looksAt
 refine List.mem_append_right _ ?_
 rw [hg]
 simp [hs]
theorem a3v {P : Program} {ops : Array Oper} {o : Oper} {io : IOp} {fr : List (Nat × C)} {O : Nat -> Prop} {sf : Nat -> C} (his : Is P o.type o.op io) (ha : ∀ t ∈ o.looksAt ops, sf t = slot fr t) (hd : ∀ t, Den ν w O (sf t) (a.tmps.getD t undef)) :
  ∀ x ∈ io.uses, Den ν w O (opv fr x) (a.eval x) := by
 intro x hx
 rw [b3d]
 refine b4Y x fun t ht => ?_
 subst ht
 rw [<- ha t (b4y ((b2Q his).1 _ hx))]
 exact hd t
theorem G6.re {E E' : Ctx} {sf : Nat -> C} {rs : List Res} (h : G6 E ν sf rs a w) (hb : Below w.heap.size w w') (hP : E'.P = E.P) (hN : E'.N = E.N) (h0 : E'.w0 = E.w0) (ho : E'.own0 = E.own0) (hnu : E'.nu0 = E.nu0) (hpk : E'.pk0 = E.pk0)
  (hav : ∀ b, E'.av b -> (E.av b \/ w.heap.size <= b) /\ b < w'.heap.size) : G6 E' ν sf rs a w' := by
 have hk : Keeps (OO E.av rs ν) w (OO E'.av rs ν) w' := by
  intro b hlt hn
  refine ⟨c1S hlt hb.size, fun h' => ?_, hb.block b hlt⟩
  rcases h' with h' | h'
  ·rcases (hav b h').1 with h1 | h1
   ·exact hn (.inl h1)
   ·omega
  ·exact hn (.inr h')
 refine ⟨h.dfr, by rw [hN]; exact h.size, fun t => Den.keep hk (h.fr t), ⟨h.rg.len, fun k r hr => ?_, h.rg.dis, fun b ho' => ?_, fun b hb' => (hav b hb').2, ?_⟩, ?_, by rw [hnu, hpk]; exact h.nu⟩
 ·obtain ⟨x, hx, hok⟩ := h.rg.res k r hr
  have := K9.mv (pk := []) hok hk (fun _ _ _ h => h) fun b hf => hb.block b (h.rg.lt hr hx hf)
  rw [a2g] at this
  exact ⟨x, hx, this⟩
 ·obtain ⟨h1, h2, h3⟩ := h.rg.low b ho'
  refine ⟨c1S h1 hb.size, fun h' => ?_, by rw [ho, h0]; exact h3⟩
  rcases (hav b h').1 with h4 | h4
  ·exact h2 h4
  ·omega
 ·rw [h0]; exact c1G h.rg.n0 hb.size
 ·rw [h0, ho]
  exact ⟨hb.os.trans h.frm.os, hb.tape.trans h.frm.tape, hb.output.trans h.frm.output, c1G h.frm.size hb.size, fun b hlt hn => (hb.block b (c1S hlt h.frm.size)).trans (h.frm.block b hlt hn)⟩
theorem a2O.put {B : Nat -> Nat} {pend : Nat -> Option Pd} {N : Nat} (h : a2O E B pend a w) (hs : a.tmps.size = N) {d : Option Nat} {y : Value} (hd : a0v N d = true) (hn : ∀ t p, pend t = some p -> d ≠ some t) (hb : ∀ b, b < w.heap.size -> (∃ t p, pend t = some p /\ B t = b) -> w'.heap[b]? = w.heap[b]?) : a2O E B pend (a.put d y) w' := by
 refine ⟨fun t p hp => ?_, h.inj, h.av0⟩
 obtain ⟨h1, h2, h3, h4⟩ := h.cell t p hp
 refine ⟨?_, (hb _ (Array.getElem?_eq_some_iff.1 h2).1 ⟨t, p, hp, rfl⟩).trans h2, h3, h4⟩
 rw [<- h1]
 cases d with
 | none => rfl
 | some d =>
  have hlt : d < N := by simpa [a0v] using hd
  rw [Q8 hs hlt, if_neg (fun e => hn t p hp (by rw [e]))]
theorem a2l (d : Option Nat) (s : C) (y : SX) : (trQ d s).step y = ⟨Y1 y.sf d s, y.rs, y.pend⟩ := by
 unfold trQ TR.step
 simp only [Option.getD_none, SX.mk.injEq, true_and, and_true]
 funext t
 simp only [Y1]
 split <;> rfl
theorem a1L {x : SX} {B : Nat -> Nat} (hG : G6 { E with av := avP E B x.pend } ν x.sf x.rs a w) (hP : a2O E B x.pend a w) {d : Option Nat} {s : C} {y : Value} (hd : a0v E.N d = true) (hn : ∀ t p, x.pend t = some p -> d ≠ some t) (hb : Below w.heap.size w w')
  (hs : Den ν w' (OO (avP E B x.pend) x.rs ν) s y) : b0b E ((trQ d s).step x) (a.put d y) w' := by
 rw [a2l]
 exact ⟨ν, B, G6.put (G6.below hG hb) hd hs, hP.put hG.size hd hn fun b hlt _ => hb.block b hlt⟩
theorem c1u {ops : Array Oper} {o : Oper} {ioo : D9} {x : DS} {N : Nat} (hN : E.N = N) (hc : a1D E.P N ops o = some ioo) {K : C -> Prop} (h : a8E E x.fr x.rs ioo K) :
    ∃ s, K s /\ ∀ y : SX, (∀ t ∈ o.looksAt ops, y.sf t = slot x.fr t) -> y.rs = x.rs -> Sem E ops o (trQ o.dst s) y := by
  obtain ⟨hd, his, hdst, hg⟩ := Y6 hc
  rw [<- hN] at hd
  unfold a8E at h
  rcases hg with ⟨hg1, hg2⟩ | ⟨j, s0, want, hg1, hg2, hs0⟩
  · rw [hg2] at h
    simp only at h
    obtain ⟨s, hk, hY⟩ := a6a his h
    refine ⟨s, hk, fun y ha hr hn K' Q a w hI hK' => ?_⟩
    obtain ⟨ν, B, hG, hP⟩ := hI
    unfold a4b
    rw [if_pos (by simp [Region.wanted, hg1])]
    refine .inl (hY (avP E B y.pend) ν a w (by rw [<- hr]; exact hG.rg) (fun b hb => .inl hb) hG.frm (by rw [<- hr]; exact a3v his ha hG.fr) rfl K' Q fun v w' hb hs => ?_)
    exact hK' _ _ (a1L hG hP hd hn hb (by rw [hr]; exact hs))
  · rw [hg2] at h
    simp only at h
    have gen : ∀ (p : Bool), (∀ (y : SX) ν (B : Nat -> Nat) a w, (∀ t ∈ o.looksAt ops, y.sf t = slot x.fr t) -> G6 { E with av := avP E B y.pend } ν y.sf y.rs a w -> (yielded ops a.tmps j == some want) = p) -> evQ E (opv x.fr) x.rs p ioo.op (KgP p K) ->
        ∃ s, K s /\ ∀ y : SX, (∀ t ∈ o.looksAt ops, y.sf t = slot x.fr t) -> y.rs = x.rs -> Sem E ops o (trQ o.dst s) y := by
      intro p hp h
      obtain ⟨s, hk, hY⟩ := a6a his h
      refine ⟨.g p s, hk, fun y ha hr hn K' Q a w hI hK' => ?_⟩
      obtain ⟨ν, B, hG, hP⟩ := hI
      unfold a4b
      rw [a5p hg1, hp y ν B a w ha hG]
      cases hpp : p with
      | false =>
        rw [if_neg (by simp)]
        refine hK' _ _ ?_
        have := a1L hG hP (y := undef) (s := .g p s) hd hn (Below.refl _ _) (a5v hpp)
        exact this
      | true =>
        rw [if_pos rfl]
        refine .inl (hY (avP E B y.pend) ν a w (by rw [<- hr]; exact hG.rg) (fun b hb => .inl hb) hG.frm (by rw [<- hr]; exact a3v his ha hG.fr) hpp K' Q fun v w' hb hs => ?_)
        have := a1L hG hP (s := .g p s) hd hn hb (a5r hpp (by rw [hr]; exact hs))
        exact hK' _ _ this
    have gval : ∀ (y : SX) ν (B : Nat -> Nat) a w, (∀ t ∈ o.looksAt ops, y.sf t = slot x.fr t) -> G6 { E with av := avP E B y.pend } ν y.sf y.rs a w ->
        (∀ b, slot x.fr s0 = .v (.bool b) -> yielded ops a.tmps j = some b) /\ (∀ q b, slot x.fr s0 = .g q (.v (.bool b)) -> (q = true -> yielded ops a.tmps j = some b) /\ (q = false -> yielded ops a.tmps j = none)) := by
      intro y ν B a w ha hG
      have hd' := hG.fr s0
      rw [ha s0 (a6S hg1 hs0)] at hd'
      exact a5o (sf := slot x.fr) hs0 hd'
    split at h
    · rename_i b hb
      exact gen _ (fun y ν B a w ha hG => by rw [(gval y ν B a w ha hG).1 b hb]; rfl) h
    · rename_i q b hb
      refine gen _ (fun y ν B a w ha hG => ?_) h
      have := (gval y ν B a w ha hG).2 q b hb
      cases hq : q with
      | true => rw [this.1 hq]; rfl
      | false => rw [this.2 hq]; rfl
    · exact h.elim
inductive LeR : Res -> Res -> Prop where
 | gone (r : Res) : LeR .gone r
 | refl (r : Res) : LeR r r
 | box (t : TypeId) (cs cs' : List C) (h : leC cs cs') : LeR (.box t cs) (.box t cs')
theorem b0L : ∀ {h rs : List Res} {k : Nat} {r : Res}, F3 h rs -> h[k]? = some r -> ∃ r', rs[k]? = some r' /\ LeR r r'
 | [], _, _, _, _, hk => by simp at hk
 | .gone :: h, [], _, _, hs, _ => hs.elim
 | .box _ _ :: h, [], _, _, hs, _ => hs.elim
 | .row _ _ _ :: h, [], _, _, hs, _ => hs.elim
 | .map _ _ :: h, [], _, _, hs, _ => hs.elim
 | x :: h, y :: rs, 0, r, hs, hk => by
  simp at hk
  subst hk
  refine ⟨y, rfl, ?_⟩
  cases x with
  | gone => exact .gone _
  | box t cs =>
   cases y with
   | box t' cs' => simp only [F3] at hs; obtain ⟨⟨rfl, h1⟩, _⟩ := hs; exact .box _ _ _ h1
   | _ => simp only [F3] at hs; cases hs.1
  | row e sz es => simp only [F3] at hs; rw [<- hs.1]; exact .refl _
  | map s es => simp only [F3] at hs; rw [<- hs.1]; exact .refl _
 | x :: h, y :: rs, k + 1, r, hs, hk => by
  have hs' : F3 h rs := by
   cases x with
   | gone => simpa only [F3] using hs
   | box t cs => cases y <;> (simp only [F3] at hs; exact hs.2)
   | row e sz es => simp only [F3] at hs; exact hs.2
   | map s es => simp only [F3] at hs; exact hs.2
  obtain ⟨r', h1, h2⟩ := b0L (k := k) hs' (by simpa using hk)
  exact ⟨r', by simpa using h1, h2⟩
theorem b3g {O : Nat -> Prop} : ∀ {cs cs' : List C} {vs : List Value}, leC cs cs' -> l6 ν w O cs' vs -> l6 ν w O cs vs
 | [], [], vs, _, h => h
 | [], _ :: _, _, h, _ => by simp only [leC] at h
 | c :: cs, [], _, h, _ => by cases c <;> simp only [leC] at h
 | c :: cs, d :: ds, vs, h, hd => by
  simp only [l6] at hd ⊢
  obtain ⟨y, ys, e, h1, h2⟩ := hd
  have key : Den ν w O c y /\ leC cs ds := by
   cases c with
   | junk => simp only [leC] at h; exact ⟨by simp only [Den], h⟩
   | _ => simp only [leC] at h; exact ⟨h.1 ▸ h1, h.2⟩
  exact ⟨y, ys, e, key.1, b3g key.2 h2⟩
theorem b8Z {h rs : List Res} {O : Nat -> Prop} (hs : F3 h rs) (hR : HR ν w O rs) : HR ν w O h := by
 intro k r hk
 obtain ⟨r', h1, h2⟩ := b0L hs hk
 obtain ⟨x, hx, hok⟩ := hR k r' h1
 refine ⟨x, hx, ?_⟩
 cases h2 with
 | gone => trivial
 | refl => exact hok
 | box t cs cs' hl =>
  obtain ⟨b, vs, h3, h4, h5, h6⟩ := hok
  exact ⟨b, vs, h3, b3g hl h4, h5, h6⟩
theorem a7O {ov : Operand -> C} {hid : List Res} {p : Bool} {o : IOp} {K : C -> Prop} {oo : Oper} (his : Is E.P oo.type oo.op o) (h : a8G ov hid p o K) :
  ∃ s, K s /\ ∀ rs av ν (a : Act) w, F3 hid rs -> RG av E.own0 E.w0.heap.size ν rs w -> (∀ b, E.av b -> av b) -> Frm E.own0 E.w0 w -> (∀ x ∈ o.uses, Den ν w (OO av rs ν) (ov x) (a.eval x)) -> p = true -> Yq E.P ν w (OO av rs ν) a oo s := by
 have pure_case : E8 ov hid p o K -> ∃ s, K s /\ ∀ rs av ν (a : Act) w, F3 hid rs -> RG av E.own0 E.w0.heap.size ν rs w -> (∀ b, E.av b -> av b) -> Frm E.own0 E.w0 w -> (∀ x ∈ o.uses, Den ν w (OO av rs ν) (ov x) (a.eval x)) -> p = true -> Yq E.P ν w (OO av rs ν) a oo s := fun h => by
  obtain ⟨s, hs, hy⟩ := a2F his h
  exact ⟨s, hs, fun rs av ν a w hsub hR _ _ hO hp => (hy ν a w _ (b8Z hsub hR.hr) hO hp).yq⟩
 cases o with
 | bsl e sz n zero parts =>
  obtain ⟨h1, h2, h3, h4, h5, h6, hk⟩ := h
  refine ⟨_, hk, fun rs av ν a w hsub hR hav hF hO hp => ?_⟩
  obtain ⟨s, rfl, hs⟩ := a6a (E := E) (ov := ov) (rs := rs) (p := p) (K := fun s => s = .sl sz (M4 (List.replicate n (zero.map .v)) (L6 ov parts))) his ⟨h1, h2, h3, h4, h5, h6, rfl⟩
  exact hs av ν a w hR hav hF hO hp
 | _ => exact pure_case h
theorem b3G {ops : Array Oper} {o : Oper} {ioo : D9} {fr : List (Nat × C)} {hid : List Res} {N : Nat} (hN : E.N = N) (hc : a1D E.P N ops o = some ioo) {K : C -> Prop} (h : a4Z fr hid ioo K) :
    ∃ s, K s /\ ∀ y : SX, (∀ t ∈ o.looksAt ops, y.sf t = slot fr t) -> F3 hid y.rs -> Sem E ops o (trQ o.dst s) y := by
  obtain ⟨hd, his, hdst, hg⟩ := Y6 hc
  rw [<- hN] at hd
  unfold a4Z at h
  rcases hg with ⟨hg1, hg2⟩ | ⟨j, s0, want, hg1, hg2, hs0⟩
  · rw [hg2] at h
    simp only at h
    obtain ⟨s, hk, hY⟩ := a7O his h
    refine ⟨s, hk, fun y ha hr hn K' Q a w hI hK' => ?_⟩
    obtain ⟨ν, B, hG, hP⟩ := hI
    unfold a4b
    rw [if_pos (by simp [Region.wanted, hg1])]
    refine .inl (hY y.rs (avP E B y.pend) ν a w hr hG.rg (fun b hb => .inl hb) hG.frm (a3v his ha hG.fr) rfl K' Q fun v w' hb hs => ?_)
    exact hK' _ _ (a1L hG hP hd hn hb hs)
  · rw [hg2] at h
    simp only at h
    have gen : ∀ (p : Bool), (∀ (y : SX) ν (B : Nat -> Nat) a w, (∀ t ∈ o.looksAt ops, y.sf t = slot fr t) -> G6 { E with av := avP E B y.pend } ν y.sf y.rs a w -> (yielded ops a.tmps j == some want) = p) -> a8G (opv fr) hid p ioo.op (KgP p K) ->
        ∃ s, K s /\ ∀ y : SX, (∀ t ∈ o.looksAt ops, y.sf t = slot fr t) -> F3 hid y.rs -> Sem E ops o (trQ o.dst s) y := by
      intro p hp h
      obtain ⟨s, hk, hY⟩ := a7O his h
      refine ⟨.g p s, hk, fun y ha hr hn K' Q a w hI hK' => ?_⟩
      obtain ⟨ν, B, hG, hP⟩ := hI
      unfold a4b
      rw [a5p hg1, hp y ν B a w ha hG]
      cases hpp : p with
      | false =>
        rw [if_neg (by simp)]
        refine hK' _ _ ?_
        have := a1L hG hP (y := undef) (s := .g p s) hd hn (Below.refl _ _) (a5v hpp)
        exact this
      | true =>
        rw [if_pos rfl]
        refine .inl (hY y.rs (avP E B y.pend) ν a w hr hG.rg (fun b hb => .inl hb) hG.frm (a3v his ha hG.fr) hpp K' Q fun v w' hb hs => ?_)
        have := a1L hG hP (s := .g p s) hd hn hb (a5r hpp hs)
        exact hK' _ _ this
    have gval : ∀ (y : SX) ν (B : Nat -> Nat) a w, (∀ t ∈ o.looksAt ops, y.sf t = slot fr t) -> G6 { E with av := avP E B y.pend } ν y.sf y.rs a w ->
        (∀ b, slot fr s0 = .v (.bool b) -> yielded ops a.tmps j = some b) /\ (∀ q b, slot fr s0 = .g q (.v (.bool b)) -> (q = true -> yielded ops a.tmps j = some b) /\ (q = false -> yielded ops a.tmps j = none)) := by
      intro y ν B a w ha hG
      have hd' := hG.fr s0
      rw [ha s0 (a6S hg1 hs0)] at hd'
      exact a5o (sf := slot fr) hs0 hd'
    split at h
    · rename_i b hb
      exact gen _ (fun y ν B a w ha hG => by rw [(gval y ν B a w ha hG).1 b hb]; rfl) h
    · rename_i q b hb
      refine gen _ (fun y ν B a w ha hG => ?_) h
      have := (gval y ν B a w ha hG).2 q b hb
      cases hq : q with
      | true => rw [this.1 hq]; rfl
      | false => rw [this.2 hq]; rfl
    · exact h.elim
theorem pkE {av : Nat -> Prop} : ∀ {pk : List Nat}, a3N E pk -> a3N { E with av := av } pk
 | [], _ => trivial
 | _ :: _, h => ⟨h.1, pkE h.2⟩
theorem c0h {ops : Array Oper} {o : Oper} {io : IOp} {fr : List (Nat × C)} {rs : List Res} (hd : a0v E.N o.dst = true) (his : Is E.P o.type o.op io) (hg : o.guard = none) {K : C -> List Res -> List Nat -> Prop} (h : evE E (opv fr) rs io K) :
  ∃ s rs' pk, K s rs' pk /\ ∀ (x : SX) ν B (K' : Act -> World -> Prop) (Q : Exit -> Act -> World -> Prop) a w, a3N E pk -> (∀ t ∈ o.looksAt ops, x.sf t = slot fr t) -> x.rs = rs -> (∀ t p, x.pend t = some p -> o.dst ≠ some t) ->
   G6 { E with av := avP E B x.pend } ν x.sf x.rs a w -> a2O E B x.pend a w -> (∀ a' w', b0b E ⟨Y1 (fun t => (x.sf t).y7 pk) o.dst s, rs', x.pend⟩ a' w' -> K' a' w') -> a4b E.P ops Q o K' a w := by
 obtain ⟨s, rs', pk, hk, hres⟩ := a8W his h
 refine ⟨s, rs', pk, hk, fun x ν B K' Q a w hpk ha hr hn hG hP hK' => ?_⟩
 unfold a4b
 rw [if_pos (by simp [Region.wanted, hg])]
 refine .inl (hres (avP E B x.pend) ν a w (by rw [<- hr]; exact hG.rg) (fun b hb => .inl hb) hG.frm (by rw [<- hr]; exact a3v his ha hG.fr) K' Q fun v ν' w' hrg hm hs => ?_)
 rw [<- hr] at hm
 refine hK' _ _ ⟨ν', B, G6.put (G6.mv hG hrg hm (pkE hpk)) hd hs, hP.put hG.size hd hn fun b hlt hbp => hm.block b hlt fun hown => ?_⟩
 obtain ⟨t, p, hp, rfl⟩ := hbp
 exact (hG.rg.low _ hown).2.1 (.inr ⟨t, p, hp, rfl⟩)
theorem adopt {x : SX} {B : Nat -> Nat} {ta : Nat} {p : Pd} (hp : x.pend ta = some p) (hG : G6 { E with av := avP E B x.pend } ν x.sf x.rs a w) (hP : a2O E B x.pend a w) :
  G6 { E with av := avP E B (fun t => if t = ta then none else x.pend t) } (ν ++ [.pointer (some ⟨B ta, 0, none⟩)]) (Y1 x.sf (some ta) (.bp x.rs.length 0)) (x.rs ++ [.box p.ty (p.zero.map .v)]) a w /\
   a2O E B (fun t => if t = ta then none else x.pend t) a w := by
 obtain ⟨c1, c2, c3, c4⟩ := hP.cell ta p hp
 have pend' : ∀ {t q}, (if t = ta then none else x.pend t) = some q -> t ≠ ta /\ x.pend t = some q := fun {t q} h => by
  split at h
  ·cases h
  ·rename_i hne; exact ⟨hne, h⟩
 have hlt : B ta < w.heap.size := (Array.getElem?_eq_some_iff.1 c2).1
 have hava : avP E B x.pend (B ta) := .inr ⟨ta, p, hp, rfl⟩
 have hav' : ∀ b, avP E B (fun t => if t = ta then none else x.pend t) b -> avP E B x.pend b /\ b ≠ B ta := by
  rintro b (hb | ⟨t, q, hq, rfl⟩)
  ·exact ⟨.inl hb, fun e => by have := hP.av0 b hb; omega⟩
  ·obtain ⟨h1, h2⟩ := pend' hq
   exact ⟨.inr ⟨t, q, h2, rfl⟩, hP.inj t ta q p h2 hp h1⟩
 have len := hG.rg.len
 have old : ∀ {k : Nat} {q : Res}, (x.rs ++ [.box p.ty (p.zero.map .v)])[k]? = some q -> (k < x.rs.length /\ x.rs[k]? = some q) \/ (k = x.rs.length /\ q = .box p.ty (p.zero.map .v)) := by
  intro k q hk
  rcases c1V k x.rs.length with h | hge
  ·rw [c1K h] at hk; exact .inl ⟨h, hk⟩
  ·rw [c1P hge] at hk
   have : k - x.rs.length = 0 := by
    rcases c1Y (k - x.rs.length) with h0 | h0
    ·exact h0
    ·rw [c2k (by simp; omega)] at hk; cases hk
   rw [this] at hk
   simp at hk
   exact .inr ⟨by omega, hk.symm⟩
 have vold : ∀ {k}, k < x.rs.length -> (ν ++ [.pointer (some ⟨B ta, 0, none⟩)])[k]? = ν[k]? := fun hk => c1K (by rw [len]; exact hk)
 have vnew : (ν ++ [.pointer (some ⟨B ta, 0, none⟩)])[x.rs.length]? = some (.pointer (some ⟨B ta, 0, none⟩)) := by rw [<- len]; simp
 have own : ∀ b, owned (x.rs ++ [.box p.ty (p.zero.map .v)]) (ν ++ [.pointer (some ⟨B ta, 0, none⟩)]) b -> owned x.rs ν b \/ b = B ta := by
  rintro b ⟨k, q, y, hk, hy, hf⟩
  rcases old hk with ⟨h, hk'⟩ | ⟨rfl, rfl⟩
  ·rw [vold h] at hy; exact .inl ⟨k, q, y, hk', hy, hf⟩
  ·rw [vnew] at hy; injection hy with hy; subst hy
   simp only [fp, D7, Option.some.injEq] at hf
   exact .inr hf.symm
 have nu : U5 [] ν (ν ++ [.pointer (some ⟨B ta, 0, none⟩)]) := fun k y _ hy => by
  rw [c1K (c1F.1 hy).1]; exact hy
 have hk : Keeps (OO (avP E B x.pend) x.rs ν) w (OO (avP E B (fun t => if t = ta then none else x.pend t)) (x.rs ++ [.box p.ty (p.zero.map .v)]) (ν ++ [.pointer (some ⟨B ta, 0, none⟩)])) w := by
  intro b hb hn
  refine ⟨hb, fun h' => ?_, rfl⟩
  rcases h' with h' | h'
  ·exact hn (.inl (hav' b h').1)
  ·rcases own b h' with h' | rfl
   ·exact hn (.inr h')
   ·exact hn (.inl hava)
 refine ⟨⟨hG.dfr, hG.size, fun t => ?_, ⟨by simp [len], fun k q hq => ?_, ?_, fun b ho => ?_, fun b hb => hG.rg.av b (hav' b hb).1, hG.rg.n0⟩, hG.frm, fun k x hk hx => nu k x (by simp) (hG.nu k x hk hx)⟩, ⟨fun t q hq => hP.cell t q (pend' hq).2, fun t t' q q' h h' => hP.inj t t' q q' (pend' h).2 (pend' h').2, hP.av0⟩⟩
 ·simp only [Y1]
  by_cases e : some ta = some t
  ·rw [if_pos e]
   injection e with e
   subst e
   simp only [Den]
   exact ⟨B ta, vnew, c1⟩
  ·rw [if_neg e]
   exact Den.nu nu (by simp) (Den.keep hk (hG.fr t))
 ·rcases old hq with ⟨h, hq'⟩ | ⟨rfl, rfl⟩
  ·obtain ⟨y, hy, hok⟩ := hG.rg.res k q hq'
   have := K9.mv (pk := []) hok hk nu fun b _ => rfl
   rw [a2g] at this
   exact ⟨y, by rw [vold h]; exact hy, this⟩
  ·exact ⟨_, vnew, B ta, p.zero, rfl, l6.vs _, a0j c4, c2⟩
 ·have half : ∀ (k : Nat) (q : Res) (y : Value) (b : Nat), x.rs[k]? = some q -> ν[k]? = some y -> fp q y b -> b ≠ B ta := fun k q y b h1 h2 h3 e => (hG.rg.low b ⟨k, q, y, h1, h2, h3⟩).2.1 (by rw [e]; exact hava)
  intro k l q q' y y' b hne hk hl hy hy' hf hf'
  rcases old hk with ⟨h, hk'⟩ | ⟨rfl, rfl⟩
  ·rw [vold h] at hy
   rcases old hl with ⟨h', hl'⟩ | ⟨rfl, rfl⟩
   ·rw [vold h'] at hy'
    exact hG.rg.dis k l q q' y y' b hne hk' hl' hy hy' hf hf'
   ·rw [vnew] at hy'; injection hy' with hy'; subst hy'
    simp only [fp, D7, Option.some.injEq] at hf'
    exact half k q y b hk' hy hf hf'.symm
  ·rw [vnew] at hy; injection hy with hy; subst hy
   simp only [fp, D7, Option.some.injEq] at hf
   rcases old hl with ⟨h', hl'⟩ | ⟨rfl, rfl⟩
   ·rw [vold h'] at hy'
    exact half l q' y' b hl' hy' hf' hf.symm
   ·exact absurd rfl hne
 ·rcases own b ho with h | rfl
  ·obtain ⟨h1, h2, h3⟩ := hG.rg.low b h
   exact ⟨h1, fun h' => h2 (hav' b h').1, h3⟩
  ·exact ⟨hlt, fun h' => (hav' _ h').2 rfl, .inr c3⟩
theorem c1p {ops : Array Oper} {o : Oper} {ioo : D9} {N : Nat} (hN : E.N = N) (hc : a1D E.P N ops o = some ioo) (hg : o.guard = none) {t ta : Nat} {zero : List Value} (hio : ioo.op = .alloc t zero) (hdd : o.dst = some ta) (hz : Y3 zero = true) (y : SX) : Sem E ops o (trA ta ⟨t, zero⟩) y := by
 obtain ⟨hd, his, hdst, _⟩ := Y6 hc
 rw [<- hN] at hd
 rw [hio] at his
 intro hn K' Q a w hI hK'
 obtain ⟨ν, B, hG, hP⟩ := hI
 unfold a4b
 rw [if_pos (by simp [Region.wanted, hg])]
 refine .inl ?_
 have hno : y.pend ta = none := by
  cases hp : y.pend ta with
  | none => rfl
  | some p => exact absurd hdd (hn ta p hp)
 have hrun : (execOp a.eval o).run E.P w = .ok (.value (.pointer (some ⟨w.heap.size, 0, none⟩))) (w.alloc (.cells zero.toArray t)) := by
  obtain ⟨dst, op, ty, pos, after, guard⟩ := o
  simp only at his
  cases his with
  | alloc t i z hi hz' => simp [execOp, Instr.alloc, newVar, newRow, zeroValue, typeInfo, hi, hz']
 unfold Oper.wp
 rw [hrun]
 refine hK' _ _ ?_
 have hsz : w.heap.size < (w.alloc (.cells zero.toArray t)).heap.size := by simp
 have hB : ∀ {s q}, y.pend s = some q -> B s < w.heap.size := fun h => (Array.getElem?_eq_some_iff.1 (hP.cell _ _ h).2.1).1
 have hG' : G6 { E with av := avP E (fun s => if s = ta then w.heap.size else B s) (fun s => if s = ta then some ⟨t, zero⟩ else y.pend s) } ν y.sf y.rs a (w.alloc (.cells zero.toArray t)) := by
  refine G6.re hG (P7 w _) rfl rfl rfl rfl rfl rfl fun b hb => ?_
  rcases hb with hb | ⟨s, q, hq, rfl⟩
  ·have h1 := hP.av0 b hb
   have h2 := hG.rg.n0
   exact ⟨.inl (.inl hb), c1S (c1S h1 h2) (Nat.le_of_lt hsz)⟩
  ·simp only at hq ⊢
   by_cases e : s = ta
   ·rw [if_pos e]; exact ⟨.inr (c1I _), hsz⟩
   ·rw [if_neg e] at hq ⊢
    exact ⟨.inl (.inr ⟨s, q, hq, rfl⟩), Nat.lt_trans (hB hq) hsz⟩
 have hput := G6.put hG' (d := o.dst) (s := .junk) (y := .pointer (some ⟨w.heap.size, 0, none⟩)) hd (by simp only [Den])
 have hstep : (trA ta ⟨t, zero⟩).step y = ⟨Y1 y.sf o.dst .junk, y.rs, fun s => if s = ta then some ⟨t, zero⟩ else y.pend s⟩ := by
  unfold trA TR.step
  simp only [Option.getD_none, SX.mk.injEq, true_and]
  refine ⟨funext fun s => ?_, funext fun s => ?_⟩
  ·simp only [Y1, hdd, Option.some.injEq]
   by_cases e : s = ta
   ·rw [if_pos e, if_pos e.symm]; rfl
   ·rw [if_neg e, if_neg (fun h => e h.symm)]; rfl
  ·split <;> rfl
 rw [hstep]
 refine ⟨ν, _, hput, fun s q hq => ?_, fun s s' q q' hq hq' hne => ?_, hP.av0⟩
 ·have hlt : ta < E.N := by rw [hdd] at hd; simpa [a0v] using hd
  simp only at hq ⊢
  rw [hdd, Q8 hG.size hlt]
  by_cases e : s = ta
  ·rw [if_pos e] at hq
   injection hq with hq
   subst hq
   rw [if_pos e, if_pos e.symm]
   exact ⟨rfl, heap_alloc_new w _, hG.rg.n0, hz⟩
  ·rw [if_neg e] at hq ⊢
   rw [if_neg (fun h => e h.symm)]
   obtain ⟨c1, c2, c3, c4⟩ := hP.cell s q hq
   exact ⟨c1, (Below.heap_alloc w _ _ (hB hq)).trans c2, c3, c4⟩
 ·simp only at hq hq' ⊢
  by_cases e : s = ta
  ·by_cases e' : s' = ta
   ·exact absurd (e.trans e'.symm) hne
   ·rw [if_neg e'] at hq'
    rw [if_pos e, if_neg e']
    have := hB hq'
    omega
  ·rw [if_neg e] at hq
   by_cases e' : s' = ta
   ·rw [if_neg e, if_pos e']
    have := hB hq
    omega
   ·rw [if_neg e'] at hq'
    rw [if_neg e, if_neg e']
    exact hP.inj s s' q q' hq hq' hne
end
def a2P (E : Ctx) (hid : List Res) (ops : Array Oper) (FV : List C) (PK pks : List Nat) (o : Oper) (t : DT) (r : TR) (x : SX) : Prop :=
 match t with
 | .q => (∃ s, r = trQ o.dst s) /\ ∀ y, agree ops o x y -> y.rs = x.rs -> Sem E ops o r y
 | .f => (∃ s, r = trQ o.dst s /\ s ∈ FV) /\ (∀ t ∈ o.looksAt ops, x.sf t ≠ .junk /\ x.sf t ∈ FV) /\ ∀ y, agree ops o x y -> F3 hid y.rs -> Sem E ops o r y
 | .l => (∃ s, r = trQ o.dst s) /\ (∀ t ∈ o.looksAt ops, x.sf t ≠ .junk /\ x.sf t ∈ FV) /\ ∀ y, agree ops o x y -> F3 hid y.rs -> Sem E ops o r y
 | .m => (∃ s, r = trQ o.dst s /\ ∀ k ∈ pks, s.has k = false) /\ (∀ t ∈ o.looksAt ops, x.sf t ≠ .junk /\ x.sf t ∈ FV) /\ ∀ y, agree ops o x y -> F3 hid y.rs -> Sem E ops o r y
 | .n => (∃ s, r = trQ o.dst s /\ s ∈ FV) /\ (∀ t ∈ o.looksAt ops, x.sf t ≠ .junk /\ x.sf t ∈ FV) /\ ∀ y, agree ops o x y -> Sem E ops o r y
 | .a => (∃ ta pd, o.dst = some ta /\ r = trA ta pd) /\ ∀ y, Sem E ops o r y
 | .e none sk => (∃ s rs' pk, r = trE o.dst s rs' pk none /\ (∀ k ∈ pk, k ∈ PK) /\ (sk = false -> F3 hid rs') /\ (O4 o.op = true -> pk = [])) /\ ∀ y, agree ops o x y -> y.rs = x.rs -> Sem E ops o r y
 | .e (some ta) sk => (∃ s rs' pk c, r = trE o.dst s rs' pk (some (ta, c)) /\ (∀ k ∈ pk, k ∈ PK) /\ (sk = false -> F3 hid rs') /\ (O4 o.op = true -> pk = [])) /\ ∀ y, agree ops o x y -> y.rs = x.rs -> y.pend ta = x.pend ta -> Sem E ops o r y
def a4E (E : Ctx) (hid : List Res) (ops : Array Oper) (FV : List C) (PK : List Nat) : List Nat -> List Oper -> List DT -> List TR -> SX -> Prop
 | _, [], [], [], _ => True
 | pks, o :: os, t :: ts, r :: rs, x => a2P E hid ops FV PK pks o t r x /\ a4E E hid ops FV PK (r.pk ++ pks) os ts rs (r.step x)
 | _, _, _, _, _ => False
def b0d (pks : List Nat) (rs : List TR) : List Nat := rs.foldl (fun a q => q.pk ++ a) pks
theorem b1u : ∀ (rs : List TR) (pks : List Nat) (k : Nat), k ∈ pks -> k ∈ b0d pks rs
 | [], _, _, h => h
 | r :: rs, pks, k, h => b1u rs (r.pk ++ pks) k (List.mem_append_right _ h)
theorem b0B : ∀ (rs : List TR) (pks : List Nat) (j : Nat) (q : TR) (k : Nat), rs[j]? = some q -> k ∈ q.pk -> k ∈ b0d pks rs
 | [], _, _, _, _, h, _ => by simp at h
 | r :: rs, pks, 0, q, k, h, hk => by
  simp at h
  subst h
  exact b1u rs _ k (List.mem_append_left _ hk)
 | r :: rs, pks, j + 1, q, k, h, hk => b0B rs (r.pk ++ pks) j q k (by simpa using h) hk
theorem a4E.get {E : Ctx} {hid : List Res} {ops : Array Oper} {FV : List C} {PK : List Nat} : ∀ {pks : List Nat} {os : List Oper} {ts : List DT} {rs : List TR} {x : SX}, a4E E hid ops FV PK pks os ts rs x -> os.length = rs.length /\ ts.length = rs.length /\
  ∀ (i : Nat) (o : Oper) (t : DT) (r : TR), os[i]? = some o -> ts[i]? = some t -> rs[i]? = some r -> a2P E hid ops FV PK (b0d pks (rs.take i)) o t r (A8 N9 (rs.take i) 0 x)
 | _, [], [], [], x, _ => ⟨rfl, rfl, by simp⟩
 | _, [], [], _ :: _, x, h => h.elim
 | _, [], _ :: _, _, x, h => h.elim
 | _, _ :: _, [], _, x, h => h.elim
 | _, _ :: _, _ :: _, [], x, h => h.elim
 | pks, o :: os, t :: ts, r :: rs, x, h => by
  obtain ⟨h1, h2⟩ := h
  obtain ⟨k1, k2, k3⟩ := a4E.get h2
  refine ⟨by simp [k1], by simp [k2], fun i o' t' r' ho ht hr => ?_⟩
  cases i with
  | zero => simp at ho ht hr; subst ho ht hr; simpa [A8, b0d] using h1
  | succ i =>
   have := k3 i o' t' r' (by simpa using ho) (by simpa using ht) (by simpa using hr)
   have e : ∀ (l : List TR) (k k' : Nat) (y : SX), A8 N9 l k y = A8 N9 l k' y := by
    intro l
    induction l with
    | nil => intro k k' y; rfl
    | cons q l ih => intro k k' y; simp only [A8, N9, if_true]; exact ih _ _ _
   simp only [List.take_succ_cons, A8, N9, if_true]
   rw [e _ (0 + 1) 0]
   exact this
def XD (x : DS) : SX := ⟨slot x.fr, x.rs, fun t => a1v t x.pend⟩
theorem a7n (ta t : Nat) : ∀ (l : List (Nat × Pd)), a1v t (rmP ta l) = if t = ta then none else a1v t l
 | [] => by simp [rmP, a1v]
 | (s, p) :: l => by
  simp only [rmP]
  by_cases e : s = ta
  ·subst e
   simp only [beq_self_eq_true, cond_true]
   rw [a7n s t l]
   by_cases e' : t = s
   ·simp [e']
   ·have : (s == t) = false := by simpa using Ne.symm e'
    simp [e', a1v, this]
  ·have : (s == ta) = false := by simpa using e
   simp only [this, cond_false, a1v]
   rw [a7n ta t l]
   by_cases e' : s = t
   ·subst e'
    simp [e]
   ·have : (s == t) = false := by simpa using e'
    simp [this]
theorem b1f (d : Option Nat) (s : C) (rs' : List Res) (pk : List Nat) (y : SX) : (trE d s rs' pk none).step y = ⟨Y1 (fun t => (y.sf t).y7 pk) d s, rs', y.pend⟩ := by
 unfold trE TR.step
 simp only [Option.getD_some, Option.getD_none, SX.mk.injEq, and_true]
 funext t
 simp only [Y1]
 split <;> rfl
theorem a8Z (d : Option Nat) (s : C) (rs' : List Res) (pk : List Nat) (ta : Nat) (c : C) (y : SX) :
  (trE d s rs' pk (some (ta, c))).step y = ⟨Y1 (fun t => (Y1 y.sf (some ta) c t).y7 pk) d s, rs', fun t => if t = ta then none else y.pend t⟩ := by
 unfold trE TR.step
 simp only [Option.getD_some, SX.mk.injEq, true_and]
 refine ⟨funext fun t => ?_, funext fun t => ?_⟩
 ·simp only [Y1, Option.some.injEq]
  split
  ·rfl
  ·by_cases e : t = ta
   ·rw [if_pos e, if_pos e.symm]; rfl
   ·rw [if_neg e, if_neg (fun h => e h.symm)]; rfl
 ·split <;> rfl
theorem a4V {pk : List Nat} : ∀ {l : List C}, a3f pk l = true -> ∀ c ∈ l, ∀ k ∈ pk, c.has k = false
 | [], _, c, hc => by cases hc
 | c0 :: l, h, c, hc => by
  simp only [a3f, c1J, Bool.not_eq_true'] at h
  cases List.mem_cons.1 hc with
  | inl e => subst e; exact a3B h.1
  | inr e => exact a4V h.2 c e
theorem a3P : ∀ {l : List C}, njL l = true -> ∀ c ∈ l, c ≠ .junk
 | [], _, c, hc => by cases hc
 | c0 :: l, h, c, hc => by
  simp only [njL, c1J] at h
  cases List.mem_cons.1 hc with
  | inl e => subst e; intro e2; subst e2; exact absurd h.1 (by simp [C.nj])
  | inr e => exact a3P h.2 c e
section
variable {E : Ctx} {ops : Array Oper} {hid : List Res} {N : Nat} {K : St -> Prop}
theorem a0b {o : Oper} {ioo : D9} {fr : List (Nat × C)} (hc : a1D E.P N ops o = some ioo) {t : Nat} (ht : t ∈ o.looksAt ops) : slot fr t ∈ opsV fr ioo := by
 obtain ⟨hd, his, hdst, hg⟩ := Y6 hc
 unfold Oper.looksAt at ht
 unfold opsV
 rcases List.mem_append.1 ht with h | h
 ·obtain ⟨x, hx, he⟩ := List.mem_filterMap.1 h
  cases x <;> simp at he
  subst he
  exact List.mem_append_left _ (List.mem_map.2 ⟨.tmp _, (b2Q his).2 _ hx, rfl⟩)
 ·refine List.mem_append_right _ ?_
  rcases hg with ⟨hg1, hg2⟩ | ⟨j, s, want, hg1, hg2, hs⟩
  ·rw [hg1] at h; cases h
  ·rw [hg1] at h
   rw [hg2]
   simp [hs] at h
   subst h
   simp
theorem b1t {P : Program} {ty : TypeId} {o : Op} {io : IOp} (h : Is P ty o io) (hc : O4 o = true) : a7C io = true := by
 cases h <;> first | rfl | (cases hc; done) | (simp_all [O4]; done)
theorem facts (hN : E.N = N) : ∀ (ol : List Oper) (ts : List DT) (il : List D9) (x : DS), Z0 E.P N ops ol = some il -> evD E hid ts il x K -> (∀ (i : Nat) (o : Oper) (t : DT), ol[i]? = some o -> ts[i]? = some t -> t.isE = true \/ t.isA = true -> o.guard = none) ->
    ∃ tr FV PK st', a4E E hid ops FV PK x.pk ol ts tr (XD x) /\ (∀ c ∈ x.fv, c ∈ FV) /\ (∀ k ∈ x.pk, k ∈ PK) /\ a3f PK FV = true /\ K st' /\ A8 N9 tr 0 (XD x) = ⟨slot st'.fr, st'.rs, fun _ => none⟩
  | [], ts, il, x, hc, h, _ => by
    simp only [Z0, Option.some.injEq] at hc
    subst hc
    cases ts with
    | cons t ts => exact h.elim
    | nil =>
      obtain ⟨h1, h2, h3⟩ := h
      refine ⟨[], x.fv, x.pk, ⟨x.fr, x.rs⟩, trivial, fun c hc => hc, fun k hk => hk, h2, h3, ?_⟩
      simp only [A8, XD, h1]
      rfl
  | o :: ol, ts, il, x, hc, h, hgd => by
    simp only [Z0] at hc
    split at hc
    · rename_i io ir hio hir
      injection hc with hc
      subst hc
      cases ts with
      | nil => exact h.elim
      | cons t ts =>
        have hgd0 := hgd 0 o t rfl rfl
        have hgd' : ∀ (i : Nat) (o : Oper) (t : DT), ol[i]? = some o -> ts[i]? = some t -> t.isE = true \/ t.isA = true -> o.guard = none := fun i o' t' ho ht => hgd (i + 1) o' t' (by simpa using ho) (by simpa using ht)
        obtain ⟨hd, his, hdst, hg⟩ := Y6 hio
        rw [<- hN] at hd
        have cont : ∀ (x' : DS) (r : TR), r.step (XD x) = XD x' -> x'.pk = r.pk ++ x.pk -> evD E hid ts ir x' K -> (∀ FV PK, (∀ c ∈ x'.fv, c ∈ FV) -> (∀ k ∈ x'.pk, k ∈ PK) -> a2P E hid ops FV PK x.pk o t r (XD x)) -> (∀ c ∈ x.fv, c ∈ x'.fv) -> (∀ k ∈ x.pk, k ∈ x'.pk) ->
            ∃ tr FV PK st', a4E E hid ops FV PK x.pk (o :: ol) (t :: ts) tr (XD x) /\ (∀ c ∈ x.fv, c ∈ FV) /\ (∀ k ∈ x.pk, k ∈ PK) /\ a3f PK FV = true /\ K st' /\ A8 N9 tr 0 (XD x) = ⟨slot st'.fr, st'.rs, fun _ => none⟩ := by
          intro x' r hx hpx hev hf hfv hpk
          obtain ⟨tr, FV, PK, st', h1, h2, h3, h4, h5, h6⟩ := facts hN ol ts ir x' hir hev hgd'
          refine ⟨r :: tr, FV, PK, st', ⟨hf FV PK h2 h3, by rw [hx, <- hpx]; exact h1⟩, fun c hc => h2 c (hfv c hc), fun k hk => h3 k (hpk k hk), h4, h5, ?_⟩
          have e : ∀ (l : List TR) (k k' : Nat) (y : SX), A8 N9 l k y = A8 N9 l k' y := by
            intro l
            induction l with
            | nil => intro k k' y; rfl
            | cons q l ih => intro k k' y; simp only [A8, N9, if_true]; exact ih _ _ _
          simp only [A8, N9, if_true, hx]
          rw [e _ (0 + 1) 0]
          exact h6
        simp only [evD] at h
        cases t with
        | q =>
          obtain ⟨s, hk, hsem⟩ := c1u hN hio h
          rw [hdst] at hk
          refine cont { x with fr := M8 x.fr o.dst s } (trQ o.dst s) ?_ rfl hk (fun FV PK _ _ => ⟨⟨s, rfl⟩, fun y ha hr => hsem y ha hr⟩) (fun c hc => hc) (fun k hk => hk)
          rw [a2l]
          simp only [XD, Q7]
        | f =>
          obtain ⟨hnj, h⟩ := h
          obtain ⟨s, hk, hsem⟩ := b3G hN hio h
          rw [hdst] at hk
          refine cont { x with fr := M8 x.fr o.dst s, fv := s :: (opsV x.fr io ++ x.fv) } (trQ o.dst s) ?_ rfl hk (fun FV PK hfv _ => ⟨⟨s, rfl, hfv s (by simp)⟩, fun t ht => ⟨a3P hnj _ (a0b hio ht), hfv _ (List.mem_cons_of_mem _ (List.mem_append_left _ (a0b hio ht)))⟩, fun y ha hr => hsem y ha hr⟩) (fun c hc => by simp [hc]) (fun k hk => hk)
          rw [a2l]
          simp only [XD, Q7]
        | l =>
          obtain ⟨hnj, h⟩ := h
          obtain ⟨s, hk, hsem⟩ := b3G hN hio h
          rw [hdst] at hk
          refine cont { x with fr := M8 x.fr o.dst s, fv := opsV x.fr io ++ x.fv } (trQ o.dst s) ?_ rfl hk (fun FV PK hfv _ => ⟨⟨s, rfl⟩, fun t ht => ⟨a3P hnj _ (a0b hio ht), hfv _ (List.mem_append_left _ (a0b hio ht))⟩, fun y ha hr => hsem y ha hr⟩) (fun c hc => by simp [hc]) (fun k hk => hk)
          rw [a2l]
          simp only [XD, Q7]
        | m =>
          obtain ⟨hnj, h⟩ := h
          obtain ⟨s, hk, hsem⟩ := b3G hN hio h
          rw [hdst] at hk
          obtain ⟨hnr, hk⟩ := hk
          refine cont { x with fr := M8 x.fr o.dst s, fv := opsV x.fr io ++ x.fv } (trQ o.dst s) ?_ rfl hk (fun FV PK hfv _ => ⟨⟨s, rfl, fun k hk => a4V hnr s (by simp) k hk⟩, fun t ht => ⟨a3P hnj _ (a0b hio ht), hfv _ (List.mem_append_left _ (a0b hio ht))⟩, fun y ha hr => hsem y ha hr⟩) (fun c hc => by simp [hc]) (fun k hk => hk)
          rw [a2l]
          simp only [XD, Q7]
        | n =>
          obtain ⟨hnj, h⟩ := h
          obtain ⟨s, hk, hsem⟩ := b3G hN hio h
          rw [hdst] at hk
          refine cont { x with fr := M8 x.fr o.dst s, fv := s :: (opsV x.fr io ++ x.fv) } (trQ o.dst s) ?_ rfl hk (fun FV PK hfv _ => ⟨⟨s, rfl, hfv s (by simp)⟩, fun t ht => ⟨a3P hnj _ (a0b hio ht), hfv _ (List.mem_cons_of_mem _ (List.mem_append_left _ (a0b hio ht)))⟩, fun y ha => hsem y ha trivial⟩) (fun c hc => by simp [hc]) (fun k hk => hk)
          rw [a2l]
          simp only [XD, Q7]
        | a =>
          simp only [a5O] at h
          split at h
          · rename_i t0 zero ta hop hdd
            obtain ⟨hz, hk⟩ := h
            rw [hdst] at hdd
            have hgn := hgd0 (.inr rfl)
            refine cont { x with fr := M8 x.fr (some ta) .junk, pend := (ta, ⟨t0, zero⟩) :: x.pend } (trA ta ⟨t0, zero⟩) ?_ rfl hk (fun FV PK _ _ => ⟨⟨ta, _, hdd, rfl⟩, fun y => c1p hN hio hgn hop hdd hz y⟩) (fun c hc => hc) (fun k hk => hk)
            unfold trA TR.step
            simp only [XD, Q7, Option.getD_none, SX.mk.injEq, true_and]
            refine ⟨funext fun s => ?_, funext fun s => ?_⟩
            · simp only [Y1, Option.some.injEq]
              by_cases e : s = ta
              · rw [if_pos e, if_pos e.symm]; rfl
              · rw [if_neg e, if_neg (fun h => e h.symm)]; rfl
            · simp only [a1v]
              by_cases e : s = ta
              · subst e; simp
              · have : (ta == s) = false := by simpa using Ne.symm e
                simp [e, this]
          · exact h.elim
        | e ad sk =>
          have hgn := hgd0 (.inl rfl)
          cases ad with
          | none =>
            simp only [a5O] at h
            obtain ⟨s, rs', pk, hk, hsem⟩ := c0h (ops := ops) hd his hgn h
            rw [hdst] at hk
            obtain ⟨hsub, hcln, hpko, hk⟩ := hk
            have hst : (trE o.dst s rs' pk none).step (XD x) = XD ⟨M8 (a0A pk x.fr) o.dst s, rs', x.pend, x.fv, pk ++ x.pk⟩ := by
              rw [b1f]
              simp only [XD, Q7]
              rw [show slot (a0A pk x.fr) = fun t => (slot x.fr t).y7 pk from funext fun t => a5d pk t x.fr]
            refine cont _ (trE o.dst s rs' pk none) hst rfl hk (fun FV PK _ hpk => ⟨⟨s, rs', pk, rfl, fun k hk => hpk k (by simp [hk]), hsub, fun hc => hcln (b1t his hc)⟩, fun y ha hr hn K' Q a w hI hK' => ?_⟩) (fun c hc => hc) (fun k hk => by simp [hk])
            obtain ⟨ν, B, hG, hP⟩ := hI
            refine hsem y ν B K' Q a w hpko ha hr hn hG hP fun a' w' hI' => hK' a' w' ?_
            rw [b1f]
            exact hI'
          | some ta =>
            simp only [a5O] at h
            split at h
            · rename_i p hfp
              obtain ⟨s, rs', pk, hk, hsem⟩ := c0h (ops := ops) (fr := (ta, C.bp x.rs.length 0) :: x.fr) hd his hgn h
              rw [hdst] at hk
              obtain ⟨hsub, hcln, hpko, hk⟩ := hk
              have hsl : slot ((ta, C.bp x.rs.length 0) :: x.fr) = Y1 (slot x.fr) (some ta) (.bp x.rs.length 0) := by rw [<- Q7]; rfl
              have hst : (trE o.dst s rs' pk (some (ta, .bp x.rs.length 0))).step (XD x) = XD ⟨M8 (a0A pk ((ta, .bp x.rs.length 0) :: x.fr)) o.dst s, rs', rmP ta x.pend, x.fv, pk ++ x.pk⟩ := by
                rw [a8Z]
                simp only [XD, Q7]
                rw [show slot (a0A pk ((ta, C.bp x.rs.length 0) :: x.fr)) = fun t => (Y1 (slot x.fr) (some ta) (.bp x.rs.length 0) t).y7 pk from funext fun t => by rw [a5d, hsl]]
                rw [show (fun t => a1v t (rmP ta x.pend)) = fun t => if t = ta then none else a1v t x.pend from funext fun t => a7n ta t _]
              refine cont _ (trE o.dst s rs' pk (some (ta, .bp x.rs.length 0))) hst rfl hk (fun FV PK _ hpk => ⟨⟨s, rs', pk, _, rfl, fun k hk => hpk k (by simp [hk]), hsub, fun hc => hcln (b1t his hc)⟩, fun y ha hr hpe hn K' Q a w hI hK' => ?_⟩) (fun c hc => hc) (fun k hk => by simp [hk])
              obtain ⟨ν, B, hG, hP⟩ := hI
              have hyp : y.pend ta = some p := by rw [hpe]; exact hfp
              obtain ⟨hG2, hP2⟩ := adopt hyp hG hP
              refine hsem ⟨Y1 y.sf (some ta) (.bp y.rs.length 0), y.rs ++ [.box p.ty (p.zero.map .v)], fun t => if t = ta then none else y.pend t⟩ _ B K' Q a w hpko (fun t ht => ?_) (by simp only [hr, XD]) (fun t q hq => ?_) hG2 hP2 fun a' w' hI' => hK' a' w' ?_
              · rw [hsl]
                simp only [Y1, hr, XD]
                split
                · rfl
                · exact ha t ht
              · simp only at hq
                split at hq
                · cases hq
                · exact hn t q hq
              · rw [a8Z, show C.bp x.rs.length 0 = .bp y.rs.length 0 by rw [hr]; rfl]
                exact hI'
            · exact h.elim
    · cases hc
end
theorem a4m {acc : List Nat} {i : Nat} : ∀ {es : List Edge}, (a2S acc es).testBit i = true -> ∃ e ∈ es, Region.binds .any e = true /\ (e.on = i \/ (acc.getD e.on 0).testBit i = true)
 | [], h => by simp [a2S] at h
 | e :: es, h => by
  simp only [a2S] at h
  split at h
  ·rename_i hb
   simp only [Nat.testBit_or, c1X] at h
   rcases h with (h | h) | h
   ·refine ⟨e, by simp, hb, .inl ?_⟩
    rw [Nat.testBit_two_pow] at h
    simpa using h
   ·exact ⟨e, by simp, hb, .inr h⟩
   ·obtain ⟨e', h1, h2⟩ := a4m h
    exact ⟨e', by simp [h1], h2⟩
  ·obtain ⟨e', h1, h2⟩ := a4m h
   exact ⟨e', by simp [h1], h2⟩
theorem b0Q : ∀ (l : List Oper) (acc : List Nat), (∀ k, k < acc.length -> (a1E l acc)[k]? = acc[k]?) /\ ∀ (j : Nat) (o : Oper), l[j]? = some o -> ∃ pre : List Nat, pre.length = acc.length + j /\ (∀ k, k < pre.length -> (a1E l acc)[k]? = pre[k]?) /\ (a1E l acc)[acc.length + j]? = some (a2S pre o.after.toList)
 | [], acc => ⟨fun k _ => rfl, by simp⟩
 | o :: l, acc => by
  obtain ⟨h1, h2⟩ := b0Q l (acc ++ [a2S acc o.after.toList])
  simp only [c1C, c1T, List.length_nil] at h1 h2
  refine ⟨fun k hk => ?_, fun j o' hj => ?_⟩
  ·simp only [a1E]
   rw [h1 k (by omega), c1K hk]
  ·cases j with
   | zero =>
    simp at hj
    subst hj
    refine ⟨acc, rfl, fun k hk => ?_, ?_⟩
    ·simp only [a1E]
     rw [h1 k (by omega), c1K hk]
    ·simp only [a1E, Nat.add_zero]
     rw [h1 _ (by omega)]
     simp
   | succ j =>
    obtain ⟨pre, p1, p2, p3⟩ := h2 j o' (by simpa using hj)
    refine ⟨pre, by omega, p2, ?_⟩
    simp only [a1E]
    rw [show acc.length + (j + 1) = acc.length + 1 + j by omega]
    exact p3
def bef (ops : Array Oper) (i j : Nat) : Prop := ∃ m, (a1E ops.toList [])[j]? = some m /\ m.testBit i = true
theorem b1H {ops : Array Oper} {i j : Nat} {o : Oper} (ho : ops[j]? = some o) (h : bef ops i j) : ∃ e ∈ o.after, Region.binds .any e = true /\ (e.on = i \/ (e.on < j /\ bef ops i e.on)) := by
 obtain ⟨m, hm, hb⟩ := h
 obtain ⟨pre, p1, p2, p3⟩ := (b0Q ops.toList []).2 j o (by simpa using ho)
 simp only [List.length_nil, c2e] at p1 p3
 rw [p3] at hm
 injection hm with hm
 subst hm
 obtain ⟨e, he, hbi, hc⟩ := a4m hb
 refine ⟨e, by simpa using he, hbi, ?_⟩
 rcases hc with hc | hc
 ·exact .inl hc
 ·right
  rcases c1V e.on j with hlt | hge
  ·have hl : e.on < pre.length := by omega
   refine ⟨hlt, pre[e.on], by rw [p2 _ hl]; simp [hl], ?_⟩
   simpa [hl] using hc
  ·rw [c1O, c2k (by omega)] at hc
   simp at hc
theorem a9C {ops : Array Oper} {D : Nat -> Bool} (hcl : a3q ops D) : ∀ (n i : Nat) (o : Oper), i <= n -> ops[i]? = some o -> (∀ e ∈ o.after, Region.binds .any e = true -> D e.on = true) -> ∀ j, bef ops j i -> D j = true := by
 intro n
 induction n with
 | zero =>
  intro i o hi ho hall j hb
  obtain ⟨e, he, hbi, hc⟩ := b1H ho hb
  rcases hc with rfl | ⟨hlt, _⟩
  ·exact hall e he hbi
  ·omega
 | succ n ih =>
  intro i o hi ho hall j hb
  obtain ⟨e, he, hbi, hc⟩ := b1H ho hb
  rcases hc with rfl | ⟨hlt, hb'⟩
  ·exact hall e he hbi
  ·have hDe := hall e he hbi
   have hlt' : e.on < ops.size := by have := (Array.getElem?_eq_some_iff.1 ho).1; omega
   have hoe : ops[e.on]? = some ops[e.on] := by simp [hlt']
   exact ih e.on _ (by omega) hoe (fun e' he' hb'' => hcl _ _ hoe hDe e' he' hb'') j hb'
theorem a0F {ops : Array Oper} {D : Nat -> Bool} (hcl : a3q ops D) (i j : Nat) (hb : bef ops i j) (hD : D j = true) : D i = true := by
 obtain ⟨m, hm, _⟩ := id hb
 have hlen : ∀ (l : List Oper) (acc : List Nat), (a1E l acc).length = acc.length + l.length := by
  intro l
  induction l with
  | nil => intro acc; simp [a1E]
  | cons o l ih => intro acc; simp only [a1E]; rw [ih]; simp; omega
 have hj : j < ops.size := by
  have := (c1F.1 hm).1
  rw [hlen] at this
  simpa using this
 have hoj : ops[j]? = some ops[j] := by simp [hj]
 exact a9C hcl j j _ (c1I _) hoj (fun e he hbi => hcl _ _ hoj hD e he hbi) i hb
theorem a1b {l m : List Nat} (h : a6d l m = true) {t : Nat} (h1 : t ∈ l) (h2 : t ∈ m) : False := by
 have := List.all_eq_true.1 h t h1
 simp at this
 exact this h2
structure a6p (ops : Array Oper) (b : Prop) (oi : Oper) (ti : DT) (oj : Oper) (tj : DT) : Prop where
 ww : b \/ ∀ t, t ∈ wrs oi ti -> t ∈ wrs oj tj -> False
 lw : b \/ ∀ t, t ∈ oi.looksAt ops -> t ∈ wrs oj tj -> False
 wl : b \/ ∀ t, t ∈ oj.looksAt ops -> t ∈ wrs oi ti -> False
 ee : b \/ ¬ (ti.isE = true /\ tj.isE = true)
 eq : b \/ ¬ (ti.isE = true /\ tj.isQ = true)
 qe : b \/ ¬ (ti.isQ = true /\ tj.isE = true)
 aa : ti.isA = true \/ tj.isA = true -> ∀ t, oi.dst = some t -> oj.dst ≠ some t
 ad : ∀ t, t ∈ ti.ad -> t ∈ tj.ad -> False
 ea : tj.isA = true -> ∀ t, t ∈ ti.ad -> oj.dst ≠ some t
 ae : ti.isA = true -> b \/ ∀ t, oi.dst = some t -> t ∈ tj.ad -> False
 le : b \/ (ti.isL = true -> tj.isE = true -> O4 oj.op = true)
 el : b \/ (ti.isE = true -> tj.isL = true -> O4 oi.op = true)
 kl : ti.isK = true -> (tj.isF = false /\ tj.isL = false) /\ tj.isM = false
 fk : tj.isK = true -> b \/ (ti.isF = false /\ (ti.isL = true -> O4 oj.op = false))
 me : ti.isM = true -> tj.isE = true -> b
theorem b2b {ops : Array Oper} {b : Bool} {oi oj : Oper} {ti tj : DT} (h : a7P ops b oi ti oj tj = true) : a6p ops (b = true) oi ti oj tj := by
 unfold a7P at h
 simp only [c1J, c1X, Bool.not_eq_true'] at h
 obtain ⟨⟨⟨⟨⟨⟨⟨⟨⟨⟨⟨h1, h2⟩, h3⟩, h4⟩, h5⟩, h6⟩, h7⟩, h8⟩, h9⟩, h10⟩, h11⟩, h12⟩ := h
 have h9' : b = true \/ ((ti.isL = true -> tj.isE = true -> O4 oj.op = true) /\ (ti.isE = true -> tj.isL = true -> O4 oi.op = true)) := by
  rcases h9 with h9 | h9
  ·exact .inl h9
  ·refine .inr ⟨fun a c => ?_, fun a c => ?_⟩
   ·rw [a, c] at h9; revert h9; cases O4 oj.op <;> simp
   ·rw [a, c] at h9; revert h9; cases O4 oi.op <;> simp
 have h4' : b = true \/ (¬ (ti.isE = true /\ tj.isE = true) /\ ¬ (ti.isE = true /\ tj.isQ = true) /\ ¬ (ti.isQ = true /\ tj.isE = true)) := by
  rcases h4 with h4 | h4
  ·exact .inl h4
  ·simp only [c1L] at h4
   refine .inr ⟨fun ⟨a, c⟩ => ?_, fun ⟨a, c⟩ => ?_, fun ⟨a, c⟩ => ?_⟩ <;> (rw [a, c] at h4; simp at h4)
 refine ⟨h1.imp id fun h t a c => a1b h a c, h2.imp id fun h t a c => a1b h a c, h3.imp id fun h t a c => a1b h a c, h4'.imp id (·.1), h4'.imp id (·.2.1), h4'.imp id (·.2.2), fun ha t e1 e2 => ?_, fun t a c => a1b h6 a c, fun ha t a e => ?_, fun ha => ?_, h9'.imp id (·.1), h9'.imp id (·.2), fun hk => ?_, fun hk => ?_, fun hm hE => ?_⟩
 rotate_left 3
 ·rcases h10 with h10 | h10
  ·rw [hk] at h10; cases h10
  ·rwa [c1L, c1L] at h10
 ·rcases h11 with (h11 | h11) | h11
  ·rw [hk] at h11; cases h11
  ·exact .inl h11
  ·refine .inr ⟨h11.1, fun h => ?_⟩
   rcases h11.2 with h13 | h13
   ·rw [h] at h13; cases h13
   ·exact h13
 ·rcases h12 with h12 | h12
  ·exact h12
  ·rw [hm, hE] at h12; simp at h12
 ·rcases h5 with h5 | h5
  ·rcases ha with ha | ha <;> rw [ha] at h5 <;> simp at h5
  ·exact a1b (t := t) h5 (by rw [e1]; simp) (by rw [e2]; simp)
 ·rcases h7 with h7 | h7
  ·rw [ha] at h7; cases h7
  ·exact a1b (t := t) h7 a (by rw [e]; simp)
 ·rcases h8 with (h8 | h8) | h8
  ·rw [ha] at h8; cases h8
  ·exact .inl h8
  ·exact .inr fun t e a => a1b (t := t) h8 (by rw [e]; simp) a
theorem b5g {ops : Array Oper} {tags : List DT} (h : b0u ops tags = true) : tags.length = ops.size /\ (∀ j oj tj, ops[j]? = some oj -> tags[j]? = some tj -> a6I j oj tj = true) /\
  ∀ i j oi ti oj tj, i < j -> ops[i]? = some oi -> tags[i]? = some ti -> ops[j]? = some oj -> tags[j]? = some tj -> a6p ops (bef ops i j) oi ti oj tj := by
 unfold b0u at h
 simp only [c1J, c1D] at h
 obtain ⟨h1, h2⟩ := h
 have main : ∀ j oj tj, ops[j]? = some oj -> tags[j]? = some tj -> a6I j oj tj = true /\ ∀ i oi ti, i < j -> ops[i]? = some oi -> tags[i]? = some ti -> a6p ops (bef ops i j) oi ti oj tj := by
  intro j oj tj hoj htj
  have hj : j < ops.size := (Array.getElem?_eq_some_iff.1 hoj).1
  have := List.all_eq_true.1 h2 j (List.mem_range.2 hj)
  have e1 : ops.toList[j]? = some oj := by simpa using hoj
  rw [e1, htj] at this
  cases e4 : (a1E ops.toList [])[j]? with
  | none => rw [e4] at this; cases this
  | some m =>
   rw [e4] at this
   have this : (a6I j oj tj && (List.range j).all fun i => match ops.toList[i]?, tags[i]? with
    | some oi, some ti => a7P ops (m.testBit i) oi ti oj tj
    | _, _ => false) = true := this
   rw [c1J] at this
   refine ⟨this.1, fun i oi ti hij hoi hti => ?_⟩
   have h3 := List.all_eq_true.1 this.2 i (List.mem_range.2 hij)
   have e5 : ops.toList[i]? = some oi := by simpa using hoi
   rw [e5, hti] at h3
   have hp := b2b h3
   have hb : m.testBit i = true -> bef ops i j := fun hb => ⟨m, e4, hb⟩
   exact ⟨hp.ww.imp hb id, hp.lw.imp hb id, hp.wl.imp hb id, hp.ee.imp hb id, hp.eq.imp hb id, hp.qe.imp hb id, hp.aa, hp.ad, hp.ea, fun ha => (hp.ae ha).imp hb id, hp.le.imp hb id, hp.el.imp hb id, hp.kl, fun hk => (hp.fk hk).imp hb id, fun h1 h2 => hb (hp.me h1 h2)⟩
 exact ⟨h1, fun j oj tj a b => (main j oj tj a b).1, fun i j oi ti oj tj hij a b c d => (main j oj tj c d).2 i oi ti hij a b⟩
structure Props (hid : List Res) (FV : List C) (PK : List Nat) (o : Oper) (t : DT) (r : TR) : Prop where
 wr : ∀ s, (r.w s).isSome = true -> s ∈ wrs o t
 pkE : r.pk ≠ [] -> t.isE = true
 rsE : r.rs' ≠ none -> t.isE = true
 pkPK : ∀ k ∈ r.pk, k ∈ PK
 pw : ∀ s, r.pw s ≠ none -> (t.isA = true /\ o.dst = some s) \/ s ∈ t.ad
 pws : ∀ s p, r.pw s = some (some p) -> t.isA = true /\ o.dst = some s
 wf : ∀ s c, r.w s = some c -> (t.isE = true \/ t.isQ = true) \/ c ∈ FV \/ c = .junk \/ t.isL = true \/ t.isM = true
 cln : O4 o.op = true -> r.pk = []
 rsub : ∀ q, r.rs' = some q -> t.isK = false -> F3 hid q
theorem a2P.props {E : Ctx} {hid : List Res} {ops : Array Oper} {FV : List C} {PK pks : List Nat} {o : Oper} {t : DT} {r : TR} {x : SX} (h : a2P E hid ops FV PK pks o t r x) : Props hid FV PK o t r := by
  have quiet : ∀ (s : C), (∀ u c, (trQ o.dst s).w u = some c -> (t.isE = true \/ t.isQ = true) \/ c ∈ FV \/ c = .junk \/ t.isL = true \/ t.isM = true) -> Props hid FV PK o t (trQ o.dst s) := fun s hw =>
    { wr := fun u hu => by
        simp only [trQ] at hu
        split at hu
        · rename_i e; unfold wrs; rw [e]; simp
        · cases hu
      pkE := fun hne => absurd rfl hne
      rsE := fun hne => absurd rfl hne
      pkPK := by simp [trQ]
      pw := fun u hu => absurd rfl hu
      pws := fun u p hu => by cases hu
      wf := hw
      cln := fun _ => rfl
      rsub := fun q hq => by cases hq }
  cases t with
  | q =>
    obtain ⟨⟨s, rfl⟩, _⟩ := h
    exact quiet s fun _ _ _ => .inl (.inr rfl)
  | f =>
    obtain ⟨⟨s, rfl, hs⟩, _⟩ := h
    refine quiet s fun u c hu => .inr (.inl ?_)
    simp only [trQ] at hu
    split at hu
    · injection hu with hu; rw [<- hu]; exact hs
    · cases hu
  | l =>
    obtain ⟨⟨s, rfl⟩, _⟩ := h
    exact quiet s fun _ _ _ => .inr (.inr (.inr (.inl rfl)))
  | m =>
    obtain ⟨⟨s, rfl, _⟩, _⟩ := h
    exact quiet s fun _ _ _ => .inr (.inr (.inr (.inr rfl)))
  | n =>
    obtain ⟨⟨s, rfl, hs⟩, _⟩ := h
    refine quiet s fun u c hu => .inr (.inl ?_)
    simp only [trQ] at hu
    split at hu
    · injection hu with hu; rw [<- hu]; exact hs
    · cases hu
  | a =>
    obtain ⟨⟨ta, pd, hdd, rfl⟩, _⟩ := h
    refine ⟨fun u hu => ?_, fun hne => absurd rfl hne, fun hne => absurd rfl hne, by simp [trA], fun u hu => .inl ⟨rfl, ?_⟩, fun u p hu => ⟨rfl, ?_⟩, fun u c hu => .inr (.inr (.inl ?_)), fun _ => rfl, fun q hq => by cases hq⟩
    · simp only [trA] at hu
      split at hu
      · rename_i e; subst e; unfold wrs; rw [hdd]; simp
      · cases hu
    · simp only [trA] at hu
      split at hu
      · rename_i e; rw [e]; exact hdd
      · exact absurd rfl hu
    · simp only [trA] at hu
      split at hu
      · rename_i e; rw [e]; exact hdd
      · cases hu
    · simp only [trA] at hu
      split at hu
      · injection hu with hu; exact hu.symm
      · cases hu
  | e ad sk =>
    cases ad with
    | none =>
      obtain ⟨⟨s, rs', pk, rfl, hpk, hsub, hcl⟩, _⟩ := h
      refine ⟨fun u hu => ?_, fun _ => rfl, fun _ => rfl, hpk, fun u hu => absurd rfl hu, (fun u p hu => by cases hu), fun _ _ _ => .inl (.inl rfl), hcl, fun q hq hk => by injection hq with hq; rw [<- hq]; exact hsub hk⟩
      simp only [trE] at hu
      split at hu
      · rename_i e; unfold wrs; rw [e]; simp
      · cases hu
    | some ta =>
      obtain ⟨⟨s, rs', pk, c, rfl, hpk, hsub, hcl⟩, _⟩ := h
      refine ⟨fun u hu => ?_, fun _ => rfl, fun _ => rfl, hpk, fun u hu => .inr ?_, fun u p hu => ?_, fun _ _ _ => .inl (.inl rfl), hcl, fun q hq hk => by injection hq with hq; rw [<- hq]; exact hsub hk⟩
      · simp only [trE] at hu
        split at hu
        · rename_i e; unfold wrs; rw [e]; simp
        · split at hu
          · rename_i e; subst e; unfold wrs; simp [DT.ad]
          · cases hu
      · simp only [trE] at hu
        split at hu
        · rename_i e; subst e; simp [DT.ad]
        · exact absurd rfl hu
      · simp only [trE] at hu
        split at hu
        · injection hu with hu; cases hu
        · cases hu
theorem a2P.mw {E : Ctx} {hid : List Res} {ops : Array Oper} {FV : List C} {PK pks : List Nat} {o : Oper} {t : DT} {r : TR} {x : SX} (h : a2P E hid ops FV PK pks o t r x) (ht : t.isM = true) {s : Nat} {c : C} (hc : r.w s = some c) : ∀ k ∈ pks, c.has k = false := by
 cases t <;> simp only [DT.isM] at ht <;> first | (cases ht; done) | skip
 obtain ⟨⟨s0, rfl, hs⟩, _⟩ := h
 simp only [trQ] at hc
 split at hc
 ·injection hc with hc; rw [<- hc]; exact hs
 ·cases hc
theorem a8Y {D : Nat -> Bool} {s : Nat} {p : Pd} : ∀ (l : List TR) (k : Nat) (x : SX), (A8 D l k x).pend s = some p -> x.pend s = some p \/ ∃ j q p', l[j]? = some q /\ D (k + j) = true /\ q.pw s = some (some p')
 | [], k, x, h => .inl h
 | r :: l, k, x, h => by
  simp only [A8] at h
  rcases a8Y l (k + 1) _ h with h1 | ⟨j, q, p', h1, h2, h3⟩
  ·by_cases hd : D k = true
   ·rw [if_pos hd] at h1
    simp only [TR.step] at h1
    cases hp : r.pw s with
    | none => rw [hp] at h1; exact .inl h1
    | some q =>
     rw [hp] at h1
     simp only [Option.getD_some] at h1
     subst h1
     exact .inr ⟨0, r, p, rfl, by simpa using hd, hp⟩
   ·rw [if_neg hd] at h1; exact .inl h1
  ·exact .inr ⟨j + 1, q, p', by simpa using h1, by rw [show k + (j + 1) = k + 1 + j by omega]; exact h2, h3⟩
set_option maxHeartbeats 1000000 in
theorem b5p {E : Ctx} (wf : ∀ b, E.av b -> b < E.w0.heap.size) {N : Nat} (hN : E.N = N) {ops : Array Oper} {tags : List DT} {il : List D9} {hid : List Res} {st : St} {K : St -> Prop} {Q : Exit -> Act -> World -> Prop} (hchk : b0u ops tags = true) (hc : Z0 E.P N ops ops.toList = some il)
    (hsub : F3 hid st.rs) (h : evD E hid tags il ⟨st.fr, st.rs, [], [], []⟩ K) (hK : ∀ st' ν a w, K st' -> Good E ν st' a w -> Q .normal a w) {ν : List Value} {a : Act} {w : World} (hG : Good E ν st a w) :
    wpAny E.P .any ops Q ops.size (Array.replicate ops.size false) a w := by
  obtain ⟨c1, c2, c3⟩ := b5g hchk
  have hgd : ∀ (i : Nat) (o : Oper) (t : DT), ops.toList[i]? = some o -> tags[i]? = some t -> t.isE = true \/ t.isA = true -> o.guard = none := by
    intro i o t ho ht hea
    have := c2 i o t (by simpa using ho) ht
    unfold a6I at this
    rw [c1J] at this
    have h2 := this.2
    cases t with
    | q => rcases hea with h | h <;> cases h
    | f => rcases hea with h | h <;> cases h
    | l => rcases hea with h | h <;> cases h
    | m => rcases hea with h | h <;> cases h
    | n => rcases hea with h | h <;> cases h
    | a => simp only [c1J, Option.isNone_iff_eq_none] at h2; exact h2.1.1
    | e ad sk => simpa using h2
  obtain ⟨tr, FV, PK, st', hF, _, _, hno, hk, hfin⟩ := facts hN ops.toList tags il ⟨st.fr, st.rs, [], [], []⟩ hc h hgd
  obtain ⟨l1, l2, hfact⟩ := hF.get
  have hlen : tr.length = ops.size := by rw [<- l1]; simp
  generalize hx0 : XD ⟨st.fr, st.rs, [], [], []⟩ = x0 at *
  have hx0r : x0.rs = st.rs := by rw [<- hx0]; rfl
  have hx0p : ∀ t, x0.pend t = none := fun t => by rw [<- hx0]; rfl
  have dat : ∀ {i : Nat} {r : TR}, tr[i]? = some r -> ∃ o t, ops[i]? = some o /\ tags[i]? = some t /\ a2P E hid ops FV PK (b0d [] (tr.take i)) o t r (A8 N9 (tr.take i) 0 x0) := by
    intro i r hr
    have hi : i < ops.size := by rw [<- hlen]; exact (c1F.1 hr).1
    have ho : ops[i]? = some ops[i] := by simp [hi]
    have ht : tags[i]? = some tags[i] := by simp [c1, hi]
    exact ⟨_, _, ho, ht, hfact i _ _ r (by simpa using ho) ht hr⟩
  have noref : ∀ {c : C} {pk : List Nat}, c ∈ FV -> (∀ k ∈ pk, k ∈ PK) -> c.y7 pk = c := fun hcf hpk => a5e fun k hk => a4V hno _ hcf k (hpk k hk)
  have junkp : ∀ pk, C.junk.y7 pk = .junk := fun pk => a5e fun k _ => by simp only [C.has]
  refine b7x (Inv := b0b E) (tr := tr) (x0 := x0) hlen (fun i o ho e he hb => ?_) (bef ops) (fun D hcl i j hb hD => a0F hcl i j hb hD) (fun D i o hcl ho hall j hb => a9C hcl i i o (c1I _) ho hall j hb) ?hcomm ?hsem ?hend ops.size (Array.replicate ops.size false) a w (by simp) (by simp) ?hcl0 ?hinv
  · have hi : i < ops.size := (Array.getElem?_eq_some_iff.1 ho).1
    have ht : tags[i]? = some tags[i] := by simp [c1, hi]
    have := c2 i o _ ho ht
    unfold a6I at this
    rw [c1J] at this
    have h1 := List.all_eq_true.1 this.1 e (by simpa using he)
    simp only [c1X, Bool.not_eq_true', c1D] at h1
    rcases h1 with h1 | h1
    · rw [h1] at hb; cases hb
    · exact h1
  case hcl0 =>
    intro i o ho hd e he hb
    exfalso
    have hi : i < ops.size := (Array.getElem?_eq_some_iff.1 ho).1
    simp [hi] at hd
  case hinv =>
    have : A8 (fun j => (Array.replicate ops.size false).getD j false) tr 0 x0 = x0 := by
      have gen : ∀ (l : List TR) (k : Nat) (x : SX), A8 (fun j => (Array.replicate ops.size false).getD j false) l k x = x := by
        intro l
        induction l with
        | nil => intro k x; rfl
        | cons r l ih =>
          intro k x
          simp only [A8]
          rw [if_neg (by rcases c1V k ops.size with h | h <;> simp [h])]
          exact ih _ _
      exact gen tr 0 x0
    rw [this]
    have hsf : x0.sf = slot st.fr := by rw [<- hx0]; rfl
    refine ⟨ν, fun _ => 0, ?_, ⟨fun t p hp => ?_, fun t t' p p' hp => ?_, wf⟩⟩
    · rw [hsf, hx0r]
      refine G6.re hG (Below.refl _ _) rfl rfl rfl rfl rfl rfl fun b hb => ?_
      rcases hb with hb | ⟨t, p, hp, _⟩
      · exact ⟨.inl hb, hG.rg.av b hb⟩
      · rw [hx0p] at hp; cases hp
    · rw [hx0p] at hp; cases hp
    · rw [hx0p] at hp; cases hp
  case hend =>
    intro a' w' hI
    rw [hfin] at hI
    obtain ⟨ν', B, hG', hP⟩ := hI
    refine hK st' ν' a' w' hk (G6.re hG' (Below.refl _ _) rfl rfl rfl rfl rfl rfl fun b hb => ⟨.inl (.inl hb), ?_⟩)
    exact c1S (wf b hb) hG'.rg.n0
  case hcomm =>
    intro i j r q hij hr hq hnb
    obtain ⟨oi, ti, hoi, hti, fi⟩ := dat hr
    obtain ⟨oj, tj, hoj, htj, fj⟩ := dat hq
    have pr := fi.props
    have pq := fj.props
    have hp := c3 i j oi ti oj tj hij hoi hti hoj htj
    have ee := hp.ee.resolve_left hnb
    have eq := hp.eq.resolve_left hnb
    have qe := hp.qe.resolve_left hnb
    refine ⟨fun t => ?_, fun t c hc' => ?_, fun t c hc' => ?_, ?_, ?_, fun t => ?_⟩
    · cases h1 : r.w t with
      | none => exact .inl rfl
      | some c =>
        cases h2 : q.w t with
        | none => exact .inr rfl
        | some c' => exact (hp.ww.resolve_left hnb t (pr.wr t (by rw [h1]; rfl)) (pq.wr t (by rw [h2]; rfl))).elim
    · cases hpk : q.pk with
      | nil => rfl
      | cons k l =>
        rw [<- hpk]
        have hE := pq.pkE (by rw [hpk]; simp)
        rcases pr.wf t c hc' with (h1 | h1) | h1 | h1 | h1 | h1
        · exact (ee ⟨h1, hE⟩).elim
        · exact (qe ⟨h1, hE⟩).elim
        · exact noref h1 pq.pkPK
        · rw [h1]; exact junkp _
        · have := pq.cln (hp.le.resolve_left hnb h1 hE); rw [hpk] at this; cases this
        · exact (hnb (hp.me h1 hE)).elim
    · cases hpk : r.pk with
      | nil => rfl
      | cons k l =>
        rw [<- hpk]
        have hE := pr.pkE (by rw [hpk]; simp)
        rcases pq.wf t c hc' with (h1 | h1) | h1 | h1 | h1 | h1
        · exact (ee ⟨hE, h1⟩).elim
        · exact (eq ⟨hE, h1⟩).elim
        · exact noref h1 pr.pkPK
        · rw [h1]; exact junkp _
        · have := pr.cln (hp.el.resolve_left hnb hE h1); rw [hpk] at this; cases this
        · exact a5e fun k hk => fj.mw h1 hc' k (b0B _ _ i r k (by rw [List.getElem?_take, if_pos hij]; exact hr) hk)
    · by_cases h1 : r.pk = []
      · exact .inl h1
      · by_cases h2 : q.pk = []
        · exact .inr h2
        · exact (ee ⟨pr.pkE h1, pq.pkE h2⟩).elim
    · by_cases h1 : r.rs' = none
      · exact .inl h1
      · by_cases h2 : q.rs' = none
        · exact .inr h2
        · exact (ee ⟨pr.rsE h1, pq.rsE h2⟩).elim
    · by_cases h1 : r.pw t = none
      · exact .inl h1
      · by_cases h2 : q.pw t = none
        · exact .inr h2
        · exfalso
          rcases pr.pw t h1 with ⟨a1, d1⟩ | a1 <;> rcases pq.pw t h2 with ⟨a2, d2⟩ | a2
          · exact hp.aa (.inl a1) t d1 d2
          · exact (hp.ae a1).resolve_left hnb t d1 a2
          · exact hp.ea a2 t a1 d2
          · exact hp.ad t a1 a2
  case hsem =>
    intro i o r D ho hr hcl hDi hbD K' a' w' hI hK'
    obtain ⟨o', t, ho', ht, fi⟩ := dat hr
    rw [ho] at ho'
    injection ho' with ho'
    subst ho'
    have hi : i < tr.length := (c1F.1 hr).1
    have hsplit : tr = tr.take i ++ r :: tr.drop (i + 1) := by
      have e := List.take_append_drop i tr
      rw [List.drop_eq_getElem_cons hi] at e
      have : tr[i] = r := by rw [c1x hi] at hr; injection hr
      rw [this] at e
      exact e.symm
    have htl : (tr.take i).length = i := by rw [c1M]; omega
    have hy : A8 D tr 0 x0 = A8 D (tr.drop (i + 1)) (i + 1) (A8 D (tr.take i) 0 x0) := by
      conv => lhs; rw [hsplit]
      rw [a4t, htl]
      simp only [A8, c2e, hDi, c2j, if_false]
    have pre_get : ∀ {j : Nat} {q : TR}, (tr.take i)[j]? = some q -> j < i /\ tr[j]? = some q := fun {j q} hq => by
      rw [List.getElem?_take] at hq
      split at hq
      · exact ⟨by assumption, hq⟩
      · cases hq
    have post_get : ∀ {j : Nat} {q : TR}, (tr.drop (i + 1))[j]? = some q -> tr[i + 1 + j]? = some q := fun {j q} hq => by rw [c2m] at hq; exact hq
    have before : ∀ {j : Nat} {q : TR}, j < i -> tr[j]? = some q -> ∃ oj tj, Props hid FV PK oj tj q /\ a6p ops (bef ops j i) oj tj o t := fun {j q} hji hq => by
      obtain ⟨oj, tj, hoj, htj, fj⟩ := dat hq
      exact ⟨oj, tj, fj.props, c3 j i oj tj o t hji hoj htj ho ht⟩
    have behind : ∀ {j : Nat} {q : TR}, i < j -> tr[j]? = some q -> D j = true -> ∃ oj tj, Props hid FV PK oj tj q /\ a6p ops (bef ops i j) o t oj tj /\ ¬ bef ops i j := fun {j q} hij hq hd => by
      obtain ⟨oj, tj, hoj, htj, fj⟩ := dat hq
      exact ⟨oj, tj, fj.props, c3 i j o t oj tj hij ho ht hoj htj, fun hb => by have := a0F hcl i j hb hd; rw [hDi] at this; cases this⟩
    have hPd : ∀ s p, (A8 D tr 0 x0).pend s = some p -> o.dst ≠ some s := by
      intro s p hp hds
      rcases a8Y tr 0 x0 hp with h1 | ⟨j, q, p', h1, h2, h3⟩
      · rw [hx0p] at h1; cases h1
      · rw [c2e] at h2
        rcases Nat.lt_trichotomy j i with hlt | heq | hgt
        · obtain ⟨oj, tj, pj, hp⟩ := before hlt h1
          obtain ⟨a1, d1⟩ := pj.pws s p' h3
          exact hp.aa (.inl a1) s d1 hds
        · subst heq; rw [hDi] at h2; cases h2
        · obtain ⟨oj, tj, pj, hp, _⟩ := behind hgt h1 h2
          obtain ⟨a1, d1⟩ := pj.pws s p' h3
          exact hp.aa (.inr a1) s hds d1
    have hw_pre : ∀ s ∈ o.looksAt ops, ∀ (j : Nat) (q : TR), (tr.take i)[j]? = some q -> (q.w s).isSome = true -> D j = true := by
      intro s hs j q hq hsm
      obtain ⟨hji, hq'⟩ := pre_get hq
      obtain ⟨oj, tj, pj, hp⟩ := before hji hq'
      rcases hp.wl with hb | hb
      · exact hbD j hb
      · exact (hb s hs (pj.wr s hsm)).elim
    have hw_post : ∀ s ∈ o.looksAt ops, ∀ (j : Nat) (q : TR), (tr.drop (i + 1))[j]? = some q -> D (i + 1 + j) = true -> q.w s = none := by
      intro s hs j q hq hd
      obtain ⟨oj, tj, pj, hp, hnb⟩ := behind (by omega) (post_get hq) hd
      cases hqs : q.w s with
      | none => rfl
      | some c => exact (hp.lw.resolve_left hnb s hs (pj.wr s (by rw [hqs]; rfl))).elim
    have fixedE : t.isE = true \/ t.isQ = true -> (∀ {j : Nat} {q : TR}, j < i -> tr[j]? = some q -> q.pk ≠ [] \/ q.rs' ≠ none -> D j = true) /\ (∀ {j : Nat} {q : TR}, i < j -> tr[j]? = some q -> D j = true -> q.pk = [] /\ q.rs' = none) := by
      intro hfx
      refine ⟨fun {j q} hji hq hne => ?_, fun {j q} hij hq hd => ?_⟩
      · obtain ⟨oj, tj, pj, hp⟩ := before hji hq
        have hE : tj.isE = true := hne.elim pj.pkE pj.rsE
        rcases hfx with hfx | hfx
        · exact hbD j (hp.ee.resolve_right fun h => h ⟨hE, hfx⟩)
        · exact hbD j (hp.eq.resolve_right fun h => h ⟨hE, hfx⟩)
      · obtain ⟨oj, tj, pj, hp, hnb⟩ := behind hij hq hd
        have hnE : ¬ tj.isE = true := fun hE => by
          rcases hfx with hfx | hfx
          · exact hp.ee.resolve_left hnb ⟨hfx, hE⟩
          · exact hp.qe.resolve_left hnb ⟨hfx, hE⟩
        refine ⟨?_, ?_⟩
        · cases h0 : q.pk with
          | nil => rfl
          | cons k l => exact (hnE (pj.pkE (by rw [h0]; simp))).elim
        · cases h0 : q.rs' with
          | none => rfl
          | some l => exact (hnE (pj.rsE (by rw [h0]; simp))).elim
    have agreeF : t.isE = true \/ t.isQ = true -> agree ops o (A8 N9 (tr.take i) 0 x0) (A8 D tr 0 x0) /\ (A8 D tr 0 x0).rs = (A8 N9 (tr.take i) 0 x0).rs := by
      intro hfx
      obtain ⟨f1, f2⟩ := fixedE hfx
      refine ⟨fun s hs => ?_, ?_⟩
      · rw [hy]
        refine a3s _ _ _ (a6i true _ _ rfl _ _ rfl (hw_pre s hs) (.inl ⟨rfl, fun j q hq hne => ?_⟩)) fun j q hq hd => ⟨hw_post s hs j q hq hd, ?_⟩
        · obtain ⟨h1, h2⟩ := pre_get hq
          exact f1 h1 h2 (.inl hne)
        · rw [(f2 (by omega) (post_get hq) hd).1]; rfl
      · rw [hy, b2Y _ _ _ fun j q hq hd => (f2 (by omega) (post_get hq) hd).2]
        exact b9L _ _ _ fun j q hq hne => by
          obtain ⟨h1, h2⟩ := pre_get hq
          rw [c2e]
          exact f1 h1 h2 (.inr hne)
    have fin : Sem E ops o r (A8 D tr 0 x0) -> wpOp E.P ops Q i K' a' w' := fun hs => by
      have := hs hPd K' Q a' w' hI hK'
      unfold wpOp
      rw [ho]
      exact this
    cases t with
    | q =>
      obtain ⟨_, hs⟩ := fi
      obtain ⟨h1, h2⟩ := agreeF (.inr rfl)
      exact fin (hs _ h1 h2)
    | f =>
      obtain ⟨_, hv, hs⟩ := fi
      refine fin (hs _ (fun s hs' => ?_) ?_)
      · rw [hy]
        obtain ⟨hnj, hfv⟩ := hv s hs'
        have hpk : ∀ {j : Nat} {q : TR}, tr[j]? = some q -> ((A8 N9 (tr.take i) 0 x0).sf s).y7 q.pk = (A8 N9 (tr.take i) 0 x0).sf s := fun {j q} hq => by
          obtain ⟨_, _, _, _, fj⟩ := dat hq
          exact noref hfv fj.props.pkPK
        exact a3s _ _ _ (a6i false _ _ rfl _ _ rfl (hw_pre s hs') (.inr ⟨hnj, fun j q hq => hpk (pre_get hq).2⟩)) fun j q hq hd => ⟨hw_post s hs' j q hq hd, hpk (post_get hq)⟩
      · refine b3J tr 0 x0 (by rw [hx0r]; exact hsub) fun j q hj hd rs' hrs' => ?_
        rw [c2e] at hd
        obtain ⟨oj, tj, hoj, htj, fj⟩ := dat hj
        refine fj.props.rsub _ hrs' ?_
        cases hK : tj.isK with
        | false => rfl
        | true =>
          exfalso
          rcases Nat.lt_trichotomy j i with hlt | heq | hgt
          · have := (c3 j i oj tj o _ hlt hoj htj ho ht).kl hK
            first
              | exact absurd this.1.1 (by decide)
              | exact absurd this.1.2 (by decide)
              | exact absurd this.2 (by decide)
          · subst heq; rw [hDi] at hd; cases hd
          · have hp := c3 i j o _ oj tj hgt ho ht hoj htj
            have hE : tj.isE = true := by cases tj <;> first | rfl | cases hK
            rcases hp.fk hK with hb | ⟨hf, hl⟩
            · have := a0F hcl i j hb hd; rw [hDi] at this; cases this
            · first
                | exact absurd hf (by decide)
                | (rcases hp.le with hb | hb
                   · have := a0F hcl i j hb hd; rw [hDi] at this; cases this
                   · have h1 := hb rfl hE
                     rw [hl rfl] at h1; cases h1)
    | l =>
      obtain ⟨_, hv, hs⟩ := fi
      refine fin (hs _ (fun s hs' => ?_) ?_)
      · rw [hy]
        obtain ⟨hnj, hfv⟩ := hv s hs'
        have hpk : ∀ {j : Nat} {q : TR}, tr[j]? = some q -> ((A8 N9 (tr.take i) 0 x0).sf s).y7 q.pk = (A8 N9 (tr.take i) 0 x0).sf s := fun {j q} hq => by
          obtain ⟨_, _, _, _, fj⟩ := dat hq
          exact noref hfv fj.props.pkPK
        exact a3s _ _ _ (a6i false _ _ rfl _ _ rfl (hw_pre s hs') (.inr ⟨hnj, fun j q hq => hpk (pre_get hq).2⟩)) fun j q hq hd => ⟨hw_post s hs' j q hq hd, hpk (post_get hq)⟩
      · refine b3J tr 0 x0 (by rw [hx0r]; exact hsub) fun j q hj hd rs' hrs' => ?_
        rw [c2e] at hd
        obtain ⟨oj, tj, hoj, htj, fj⟩ := dat hj
        refine fj.props.rsub _ hrs' ?_
        cases hK : tj.isK with
        | false => rfl
        | true =>
          exfalso
          rcases Nat.lt_trichotomy j i with hlt | heq | hgt
          · have := (c3 j i oj tj o _ hlt hoj htj ho ht).kl hK
            first
              | exact absurd this.1.1 (by decide)
              | exact absurd this.1.2 (by decide)
              | exact absurd this.2 (by decide)
          · subst heq; rw [hDi] at hd; cases hd
          · have hp := c3 i j o _ oj tj hgt ho ht hoj htj
            have hE : tj.isE = true := by cases tj <;> first | rfl | cases hK
            rcases hp.fk hK with hb | ⟨hf, hl⟩
            · have := a0F hcl i j hb hd; rw [hDi] at this; cases this
            · first
                | exact absurd hf (by decide)
                | (rcases hp.le with hb | hb
                   · have := a0F hcl i j hb hd; rw [hDi] at this; cases this
                   · have h1 := hb rfl hE
                     rw [hl rfl] at h1; cases h1)
    | m =>
      obtain ⟨_, hv, hs⟩ := fi
      refine fin (hs _ (fun s hs' => ?_) ?_)
      · rw [hy]
        obtain ⟨hnj, hfv⟩ := hv s hs'
        have hpk : ∀ {j : Nat} {q : TR}, tr[j]? = some q -> ((A8 N9 (tr.take i) 0 x0).sf s).y7 q.pk = (A8 N9 (tr.take i) 0 x0).sf s := fun {j q} hq => by
          obtain ⟨_, _, _, _, fj⟩ := dat hq
          exact noref hfv fj.props.pkPK
        exact a3s _ _ _ (a6i false _ _ rfl _ _ rfl (hw_pre s hs') (.inr ⟨hnj, fun j q hq => hpk (pre_get hq).2⟩)) fun j q hq hd => ⟨hw_post s hs' j q hq hd, hpk (post_get hq)⟩
      · refine b3J tr 0 x0 (by rw [hx0r]; exact hsub) fun j q hj hd rs' hrs' => ?_
        rw [c2e] at hd
        obtain ⟨oj, tj, hoj, htj, fj⟩ := dat hj
        refine fj.props.rsub _ hrs' ?_
        cases hK : tj.isK with
        | false => rfl
        | true =>
          exfalso
          rcases Nat.lt_trichotomy j i with hlt | heq | hgt
          · have := (c3 j i oj tj o _ hlt hoj htj ho ht).kl hK
            first
              | exact absurd this.1.1 (by decide)
              | exact absurd this.1.2 (by decide)
              | exact absurd this.2 (by decide)
          · subst heq; rw [hDi] at hd; cases hd
          · have hp := c3 i j o _ oj tj hgt ho ht hoj htj
            have hE : tj.isE = true := by cases tj <;> first | rfl | cases hK
            have := a0F hcl i j (hp.me rfl hE) hd
            rw [hDi] at this; cases this
    | n =>
      obtain ⟨_, hv, hs⟩ := fi
      refine fin (hs _ fun s hs' => ?_)
      · rw [hy]
        obtain ⟨hnj, hfv⟩ := hv s hs'
        have hpk : ∀ {j : Nat} {q : TR}, tr[j]? = some q -> ((A8 N9 (tr.take i) 0 x0).sf s).y7 q.pk = (A8 N9 (tr.take i) 0 x0).sf s := fun {j q} hq => by
          obtain ⟨_, _, _, _, fj⟩ := dat hq
          exact noref hfv fj.props.pkPK
        exact a3s _ _ _ (a6i false _ _ rfl _ _ rfl (hw_pre s hs') (.inr ⟨hnj, fun j q hq => hpk (pre_get hq).2⟩)) fun j q hq hd => ⟨hw_post s hs' j q hq hd, hpk (post_get hq)⟩
    | a =>
      obtain ⟨_, hs⟩ := fi
      exact fin (hs _)
    | e ad sk =>
      obtain ⟨h1, h2⟩ := agreeF (.inl rfl)
      cases ad with
      | none =>
        obtain ⟨_, hs⟩ := fi
        exact fin (hs _ h1 h2)
      | some ta =>
        obtain ⟨_, hs⟩ := fi
        refine fin (hs _ h1 h2 ?_)
        rw [hy, a9j _ _ _ fun j q hq hd => ?_]
        · refine b0D _ _ _ _ rfl fun j q hq hne => ?_
          obtain ⟨hji, hq'⟩ := pre_get hq
          obtain ⟨oj, tj, pj, hp⟩ := before hji hq'
          rw [c2e]
          rcases pj.pw ta hne with ⟨a1, d1⟩ | a1
          · rcases hp.ae a1 with hb | hb
            · exact hbD j hb
            · exact (hb ta d1 (by simp [DT.ad])).elim
          · exact (hp.ad ta a1 (by simp [DT.ad])).elim
        · obtain ⟨oj, tj, pj, hp, hnb⟩ := behind (by omega) (post_get hq) hd
          cases hpw : q.pw ta with
          | none => rfl
          | some z =>
            exfalso
            rcases pj.pw ta (by rw [hpw]; simp) with ⟨a1, d1⟩ | a1
            · exact hp.ea a1 ta (by simp [DT.ad]) d1
            · exact hp.ad ta (by simp [DT.ad]) a1
theorem a0M {eff : Nat -> Bool} {P : Program} {N : Nat} {code : Code} {ic : IC} (h : comp eff P N code = some ic) : match (generalizing := false) ic with
  | .skip => code = .skip
  | .reg l => ∃ id ops, code = .region id ops false /\ Z0 P N ops ops.toList = some l
  | .U6 tg l => ∃ id ops, code = .region id ops true /\ P.follows .mixedOrders = true /\ b0u ops (a7Z eff ops.toList) = true /\ tg = a7Z eff ops.toList /\ Z0 P N ops ops.toList = some l
  | .seq x y => ∃ a b, code = .seq a b /\ comp eff P N a = some x /\ comp eff P N b = some y
  | .cond c x y => ∃ a b, code = .cond c a b /\ comp eff P N a = some x /\ comp eff P N b = some y
  | .block id x => ∃ a, code = .block id a /\ comp eff P N a = some x
  | .loop x => ∃ a, code = .loop a /\ comp eff P N a = some x
  | .exit id => code = .exit id
  | .ret => code = .ret := by
 unfold comp at h
 split at h <;> (try (repeat' split at h)) <;> (try cases h)
 all_goals first
  | exact rfl
  | exact ⟨_, _, rfl, by assumption, by assumption⟩
  | exact ⟨_, _, rfl, by assumption⟩
  | exact ⟨_, rfl, by assumption⟩
  | (rename_i hh _ _ _; rw [c1J] at hh; exact ⟨_, _, rfl, hh.1, hh.2, rfl, by assumption⟩)
inductive It where
 | code (c : IC)
 | blk (id : Nat)
 | inv (J : Act -> World -> Prop)
mutual
def wpS (E : Ctx) (Q : Exit -> Act -> World -> Prop) : List It -> Act -> World -> Prop
  | [], a, w => Q .normal a w
  | .code c :: k, a, w => ∀ code, comp E.eff E.P E.N code = some c -> code.wp E.P (fun e a' w' => match e with
      | .normal => wpS E Q k a' w'
      | .exit id => exS E Q id k a' w'
      | e => Q e a' w') a w
  | .blk _ :: k, a, w => wpS E Q k a w
  | .inv J :: _, a, w => J a w
def exS (E : Ctx) (Q : Exit -> Act -> World -> Prop) (id : Nat) : List It -> Act -> World -> Prop
 | [], a, w => Q (.exit id) a w
 | .code _ :: k, a, w => exS E Q id k a w
 | .blk i :: k, a, w => if id = i then wpS E Q k a w else exS E Q id k a w
 | .inv _ :: k, a, w => exS E Q id k a w
end
def a1Z (id : Nat) : List It -> Option (List It)
 | [] => none
 | .code _ :: k => a1Z id k
 | .blk i :: k => if id = i then some k else a1Z id k
 | .inv _ :: k => a1Z id k
def Wf (E : Ctx) : Prop := ∀ b, E.av b -> b < E.w0.heap.size
def S (E : Ctx) (Q : Exit -> Act -> World -> Prop) (st : St) (k : List It) : Prop := Wf E -> ∀ ν a w, Good E ν st a w -> wpS E Q k a w
def Ent (E : Ctx) (st st' : St) : Prop := Wf E -> ∀ ν a w, Good E ν st a w -> ∃ ν', Good E ν' st' a w
section
variable {E : Ctx} {Q : Exit -> Act -> World -> Prop} {st : St} {k : List It}
theorem S.weaken {st' : St} (h : Ent E st st') (hs : S E Q st' k) : S E Q st k := fun wf ν a w hG => let ⟨ν', hG'⟩ := h wf ν a w hG; hs wf ν' a w hG'
theorem S.skip (h : S E Q st k) : S E Q st (.code .skip :: k) := by
 intro wf ν a w hG code hc
 have hc := a0M hc
 simp only at hc
 subst hc
 exact wp_skip (h wf ν a w hG)
theorem S.seq {x y : IC} (h : S E Q st (.code x :: .code y :: k)) : S E Q st (.code (.seq x y) :: k) := by
 intro wf ν a w hG code hc
 obtain ⟨ca, cb, rfl, hx, hy⟩ := a0M hc
 refine wp_seq (wp_mono (h wf ν a w hG ca hx) fun e a' w' hq => ?_)
 cases e with
 | normal => exact hq cb hy
 | exit id => exact hq
 | _ => exact hq
theorem S.cond {c : Operand} {x y : IC} {b : Bool} (hb : opv st.fr c = .v (.bool b)) (ht : b = true -> S E Q st (.code x :: k)) (hf : b = false -> S E Q st (.code y :: k)) : S E Q st (.code (.cond c x y) :: k) := by
 intro wf ν a w hG code hc
 obtain ⟨ca, cb, rfl, hx, hy⟩ := a0M hc
 have e1 := a1g hG c
 rw [hb] at e1
 have e1 : a.eval c = .bool b := by simpa only [Den] using e1
 exact wp_cond_split e1 (fun hbt => ht hbt wf ν a w hG ca hx) (fun hbf => hf hbf wf ν a w hG cb hy)
theorem S.split (t : Nat) {Sx : Value -> Prop} (ht : slot st.fr t = .any Sx) (h : ∀ y, Sx y -> S E Q ⟨(t, .v y) :: st.fr, st.rs⟩ k) : S E Q st k := by
 intro wf ν a w hG
 have hd := hG.fr t
 rw [ht] at hd
 simp only [Den] at hd
 refine h _ hd wf ν a w ⟨hG.dfr, hG.size, fun t' => ?_, hG.rg, hG.frm, hG.nu⟩
 simp only [slot]
 cases hb : (t == t') with
 | true =>
  have : t = t' := by simpa using hb
  subst this
  simp [Den]
 | false => exact hG.fr t'
theorem S.block {id : Nat} {x : IC} (h : S E Q st (.code x :: .blk id :: k)) : S E Q st (.code (.block id x) :: k) := by
 intro wf ν a w hG code hc
 obtain ⟨ca, rfl, hx⟩ := a0M hc
 refine wp_block (wp_mono (h wf ν a w hG ca hx) fun e a' w' hq => ?_)
 cases e with
 | normal => exact hq
 | exit i =>
  simp only [exS] at hq
  simp only [Exit.inBlock]
  split
  ·rename_i e; rw [if_pos e] at hq; exact hq
  ·rename_i e; rw [if_neg e] at hq; exact hq
 | _ => exact hq
theorem S.blk {id : Nat} (h : S E Q st k) : S E Q st (.blk id :: k) := fun wf ν a w hG => h wf ν a w hG
theorem a4f {id : Nat} : ∀ {k k' : List It}, a1Z id k = some k' -> ∀ a w, wpS E Q k' a w -> exS E Q id k a w
 | [], _, h, _, _, _ => by cases h
 | .code _ :: k, k', h, a, w, hq => by simp only [exS]; exact a4f (k := k) (by simpa only [a1Z] using h) a w hq
 | .blk i :: k, k', h, a, w, hq => by
  simp only [a1Z] at h
  simp only [exS]
  split
  ·rename_i e; rw [if_pos e] at h; injection h with h; subst h; exact hq
  ·rename_i e; rw [if_neg e] at h; exact a4f (k := k) h a w hq
 | .inv _ :: k, k', h, a, w, hq => by simp only [exS]; exact a4f (k := k) (by simpa only [a1Z] using h) a w hq
theorem S.exit {id : Nat} {k' : List It} (hk : a1Z id k = some k') (h : S E Q st k') : S E Q st (.code (.exit id) :: k) := by
 intro wf ν a w hG code hc
 have hc := a0M hc
 simp only at hc
 subst hc
 exact wp_exit (a4f hk a w (h wf ν a w hG))
theorem S.ret (h : Wf E -> ∀ ν a w, Good E ν st a w -> Q .ret a w) : S E Q st (.code .ret :: k) := by
 intro wf ν a w hG code hc
 have hc := a0M hc
 simp only at hc
 subst hc
 exact wp_ret (h wf ν a w hG)
theorem S.nil (h : Wf E -> ∀ ν a w, Good E ν st a w -> Q .normal a w) : S E Q st [] := h
theorem S.inv {J : Act -> World -> Prop} (h : Wf E -> ∀ ν a w, Good E ν st a w -> J a w) : S E Q st (.inv J :: k) := h
theorem S.reg {ops : List D9} (h : ev E ops st fun st' => S E Q st' k) : S E Q st (.code (.reg ops) :: k) := by
 intro wf ν a w hG code hc
 obtain ⟨id, cops, rfl, hl⟩ := a0M hc
 exact wp_region_list (b1k rfl (fun st' ν' a' w' hk hG' => hk wf ν' a' w' hG') cops.toList _ st ν a w hl h hG)
theorem S.U6 {tags : List DT} {ops : List D9} (hid : List Res) (hs : F3 hid st.rs) (h : evD E hid tags ops ⟨st.fr, st.rs, [], [], []⟩ fun st' => S E Q st' k) : S E Q st (.code (.U6 tags ops) :: k) := by
 intro wf ν a w hG code hc
 obtain ⟨id, cops, rfl, hm, hok, rfl, hl⟩ := a0M hc
 have hG' : Good E ν st a w.drew := G6.below hG (Below.refl _ _).drew
 exact wp_region_any hm (b5p wf rfl hok hl hs h (fun st' ν' a' w' hk hG2 => hk wf ν' a' w' hG2) hG')
theorem S.loop {body : IC} {X : Type} (stI : X -> St) (pre : X -> Prop) (m : X -> Nat) (x0 : X) (h0 : pre x0) (hi : Ent E st (stI x0))
  (round : ∀ x, pre x -> S E Q (stI x) (.code body :: .inv (fun a w => ∃ x' ν', pre x' /\ m x' < m x /\ Good E ν' (stI x') a w) :: k)) : S E Q st (.code (.loop body) :: k) := by
 intro wf ν a w hG code hc
 obtain ⟨cb, rfl, hx⟩ := a0M hc
 obtain ⟨ν', hG'⟩ := hi wf ν a w hG
 refine wp_loop_ghost (fun n a w => ∃ x ν, m x = n /\ pre x /\ Good E ν (stI x) a w) (m x0) ⟨x0, ν', rfl, h0, hG'⟩ ?_
 rintro n a w ⟨x, ν, rfl, hp, hGx⟩
 refine wp_mono (round x hp wf ν a w hGx cb hx) fun e a' w' hq => ?_
 cases e with
 | normal =>
  simp only [wpS] at hq
  obtain ⟨x', ν', hp', hlt, hG'⟩ := hq
  exact ⟨m x', hlt, x', ν', rfl, hp', hG'⟩
 | exit id => exact hq
 | _ => exact hq
theorem S.next {X : Type} {stI : X -> St} {pre : X -> Prop} {m : X -> Nat} {x : X} (x' : X) (hp : pre x') (hm : m x' < m x) (h : Ent E st (stI x')) :
  S E Q st (.inv (fun a w => ∃ x' ν', pre x' /\ m x' < m x /\ Good E ν' (stI x') a w) :: k) := by
 intro wf ν a w hG
 obtain ⟨ν', hG'⟩ := h wf ν a w hG
 exact ⟨x', ν', hp, hm, hG'⟩
end
mutual
def C.bd (n : Nat) : C -> Bool
 | .rv l => decide (l < n)
 | .rp l _ _ _ => decide (l < n)
 | .bp l _ => decide (l < n)
 | .mp l => decide (l < n)
 | .wv l _ _ _ => decide (l < n)
 | .agg cs => C.bdL n cs
 | .tup cs => C.bdL n cs
 | .g _ x => C.bd n x
 | .clo _ cs => C.bdL n cs
 | .bnd _ x => C.bd n x
 | _ => true
def C.bdL (n : Nat) : List C -> Bool
 | [] => true
 | c :: cs => C.bd n c && C.bdL n cs
end
def rest (rs' : List Res) (k : Nat) : Bool :=
 match rs'[k]? with
 | none => true
 | some .gone => true
 | _ => false
theorem I5 {α : Type} {l : List α} {n k : Nat} {x : α} (hk : k < n) (h : l[k]? = some x) : (l.take n)[k]? = some x := by
 rw [List.getElem?_take, if_pos hk]; exact h
theorem V4 {α : Type} {l : List α} {n k : Nat} {x : α} (h : (l.take n)[k]? = some x) : l[k]? = some x := by
 rw [List.getElem?_take] at h
 split at h
 ·exact h
 ·cases h
section
variable {ν : List Value} {w : World} {O : Nat -> Prop}
mutual
theorem Den.take (n : Nat) : ∀ {c : C} {y : Value}, c.bd n = true -> Den ν w O c y -> Den (ν.take n) w O c y
 | .v _, y, _, h => by simpa only [Den] using h
 | .agg cs, y, hb, h => by
  simp only [Den, C.bd] at h hb ⊢
  obtain ⟨vs, h1, h2⟩ := h
  exact ⟨vs, l6.takeν n hb h1, h2⟩
 | .tup cs, y, hb, h => by
  simp only [Den, C.bd] at h hb ⊢
  obtain ⟨vs, h1, h2⟩ := h
  exact ⟨vs, l6.takeν n hb h1, h2⟩
 | .sl _ _, y, _, h => by simpa only [Den] using h
 | .nl, y, _, h => by simpa only [Den] using h
 | .ep _, y, _, h => by simpa only [Den] using h
 | .bnd f x, y, hb, h => by
  simp only [Den, C.bd] at h hb ⊢
  obtain ⟨v, h1, h2⟩ := h
  exact ⟨v, Den.take n hb h1, h2⟩
 | .clo f cs, y, hb, h => by
  simp only [Den, C.bd] at h hb ⊢
  obtain ⟨vs, h1, h2⟩ := h
  exact ⟨vs, l6.takeν n hb h1, h2⟩
 | .bp l off, y, hb, h => by
  simp only [Den, C.bd, c1D] at h hb ⊢
  obtain ⟨b, h1, h2⟩ := h
  exact ⟨b, I5 hb h1, h2⟩
 | .rv l, y, hb, h => by
  simp only [Den, C.bd, c1D] at h hb ⊢
  exact ⟨I5 hb h.1, h.2⟩
 | .rp l z i off, y, hb, h => by
  simp only [Den, C.bd, c1D] at h hb ⊢
  obtain ⟨b, n', c, h1, h2⟩ := h
  exact ⟨b, n', c, I5 hb h1, h2⟩
 | .mp l, y, hb, h => by
  simp only [Den, C.bd, c1D] at h hb ⊢
  exact ⟨I5 hb h.1, h.2⟩
 | .wv l z lo m, y, hb, h => by
  simp only [Den, C.bd, c1D] at h hb ⊢
  obtain ⟨A, c, h1, h2, h2b, h3⟩ := h
  refine ⟨A, c, h1, h2, h2b, fun h0 => ?_⟩
  obtain ⟨x, b, g1, g2⟩ := h3 h0
  exact ⟨x, b, I5 hb g1, g2⟩
 | .g p x, y, hb, h => by
  simp only [Den, C.bd] at h hb ⊢
  exact ⟨fun hp => Den.take n hb (h.1 hp), h.2⟩
 | .any _, y, _, h => by simpa only [Den] using h
 | .junk, y, _, _ => by simp only [Den]
theorem l6.takeν (n : Nat) : ∀ {cs : List C} {vs : List Value}, C.bdL n cs = true -> l6 ν w O cs vs -> l6 (ν.take n) w O cs vs
 | [], vs, _, h => by simpa only [l6] using h
 | c :: cs, vs, hb, h => by
  simp only [l6, C.bdL, c1J] at h hb ⊢
  obtain ⟨y, ys, e, h1, h2⟩ := h
  exact ⟨y, ys, e, Den.take n hb.1 h1, l6.takeν n hb.2 h2⟩
end
theorem Keeps.sub {O' : Nat -> Prop} (h : ∀ b, O' b -> O b) : Keeps O w O' w := fun b hb hn => ⟨hb, fun h' => hn (h b h'), rfl⟩
theorem b4Z {e sz n : Nat} {y : Value} {es : List (List C)} {vs : List Value} (h : rowAt w e sz y n vs) (hn : es.length = n) (hl : ∀ q ∈ es, q.length = sz) (hF : FzL w O es.flatten vs) (h1 : ∀ u ∈ vs, u.oneCell' = true)
  (hb : ∀ b, D7 y = some b -> b < w.heap.size /\ ¬ O b) : Fz w O (.sl sz es) y := by
 have hbound : ∃ A c, y = .slice A n c /\ n <= c /\ c <= maxLen /\ (0 < n -> ∃ g, A = some ⟨g, 0, none⟩ /\ g < w.heap.size /\ ¬ O g) := by
  rcases h.2 with ⟨rfl, A, rfl⟩ | ⟨g, cap, cur, rfl, h0, hg, hnc, hcm, hcs, ht⟩
  ·exact ⟨A, 0, rfl, c1I _, c1H _, fun h => by omega⟩
  ·obtain ⟨b1, b2⟩ := hb g (by simp only [D7]; rw [if_neg (by omega)])
   exact ⟨_, cap, rfl, hnc, hcm, fun _ => ⟨g, rfl, b1, b2⟩⟩
 obtain ⟨A, c, rfl, hc1, hc2, hA⟩ := hbound
 subst hn
 simp only [Fz]
 refine ⟨A, c, rfl, hc1, hc2, fun h0 => ?_⟩
 obtain ⟨g, rfl, b1, b2⟩ := hA h0
 refine ⟨_, rfl, b1, b2, FzE.of fun k q hq => ⟨hl q (c1A hq), ?_⟩⟩
 have hseg := a2p hl hq
 have hsub : FzL w O q ((vs.drop (k * sz)).take sz) := by
  have := (hF.drop (k * sz)).take sz
  rwa [hseg] at this
 refine FzA.of hsub (fun u hu => h1 u (List.mem_of_mem_drop (List.mem_of_mem_take hu))) fun i v hv => ?_
 rw [List.getElem?_take] at hv
 split at hv
 ·rw [c2m] at hv
  rw [c2e]
  exact h.cells _ v hv
 ·cases hv
end
structure Cut (av : Nat -> Prop) (rs rs' : List Res) (ν : List Value) : Prop where
 sub : ∀ b, OO av rs' (ν.take rs'.length) b -> OO av rs ν b
 dead : ∀ (k : Nat) (r : Res) (x : Value) (b : Nat), rest rs' k = true -> rs[k]? = some r -> ν[k]? = some x -> fp r x b -> ¬ OO av rs' (ν.take rs'.length) b
def R3 : List Res -> List Res -> Bool
 | [], _ => true
 | _ :: _, [] => false
 | r' :: rs', r :: rs => (match r', r with
  | .gone, _ => true
  | .box _ _, .box _ _ => true
  | .row _ _ _, .row _ _ _ => true
  | .map _ _, .map _ _ => true
  | _, _ => false) && R3 rs' rs
theorem a1S : ∀ {rs' rs : List Res} {k : Nat} {r' : Res}, R3 rs' rs = true -> rs'[k]? = some r' -> ∃ r, rs[k]? = some r /\ (r' = .gone \/ ∀ x b, fp r' x b = fp r x b)
 | [], _, k, r', _, h => by simp at h
 | _ :: _, [], _, _, h, _ => by simp [R3] at h
 | q' :: rs', q :: rs, 0, r', h, hk => by
  simp at hk
  subst hk
  simp only [R3, c1J] at h
  refine ⟨q, rfl, ?_⟩
  have := h.1
  split at this
  ·exact .inl rfl
  ·exact .inr fun _ _ => rfl
  ·exact .inr fun _ _ => rfl
  ·exact .inr fun _ _ => rfl
  ·cases this
 | q' :: rs', q :: rs, k + 1, r', h, hk => by
  simp only [R3, c1J] at h
  obtain ⟨r, h1, h2⟩ := a1S (k := k) h.2 (by simpa using hk)
  exact ⟨r, by simpa using h1, h2⟩
theorem a7w : ∀ {rs' rs : List Res}, R3 rs' rs = true -> rs'.length <= rs.length
 | [], _, _ => by simp
 | _ :: _, [], h => by simp [R3] at h
 | _ :: rs', _ :: rs, h => by simp only [R3, c1J] at h; simpa using a7w h.2
section
variable {av own0 : Nat -> Prop} {n0 : Nat} {ν : List Value} {rs rs' : List Res} {w : World}
theorem Cut.of (hR : RG av own0 n0 ν rs w) (hk : R3 rs' rs = true) : Cut av rs rs' ν := by
 have own : ∀ b, owned rs' (ν.take rs'.length) b -> ∃ l r x, rest rs' l = false /\ rs[l]? = some r /\ ν[l]? = some x /\ fp r x b := by
  rintro b ⟨l, r', x, h1, h2, h3⟩
  obtain ⟨r, hr, h⟩ := a1S hk h1
  rcases h with rfl | h
  ·exact h3.elim
  ·refine ⟨l, r, x, ?_, hr, V4 h2, by rw [<- h]; exact h3⟩
   unfold rest
   rw [h1]
   cases r' <;> first | rfl | exact h3.elim
 refine ⟨fun b hb => ?_, fun k r x b hd h1 h2 h3 hb => ?_⟩
 ·rcases hb with hb | hb
  ·exact .inl hb
  ·obtain ⟨l, r, x, _, h1, h2, h3⟩ := own b hb
   exact .inr ⟨l, r, x, h1, h2, h3⟩
 ·rcases hb with hb | hb
  ·exact (hR.low b ⟨k, r, x, h1, h2, h3⟩).2.1 hb
  ·obtain ⟨l, r', x', hl, h4, h5, h6⟩ := own b hb
   have hne : k ≠ l := fun e => by subst e; rw [hd] at hl; cases hl
   exact hR.dis k l r r' x x' b hne h1 h4 h2 h5 h3 h6
end
def Imp (rs rs' : List Res) (c c' : C) : Prop := ∀ av own0 n0 ν w y, RG av own0 n0 ν rs w -> Cut av rs rs' ν -> Den ν w (OO av rs ν) c y -> Den (ν.take rs'.length) w (OO av rs' (ν.take rs'.length)) c' y
def j5 (rs rs' : List Res) : List C -> List C -> Prop
 | [], [] => True
 | c :: cs, c' :: cs' => Imp rs rs' c c' /\ j5 rs rs' cs cs'
 | _, _ => False
section
variable {rs rs' : List Res}
theorem Imp.refl {c : C} (hb : c.bd rs'.length = true) : Imp rs rs' c c := fun _ _ _ _ _ _ _ hC h => Den.take _ hb (Den.keep (Keeps.sub hC.sub) h)
theorem Imp.eq {c c' : C} (e : c = c') (hb : c'.bd rs'.length = true) : Imp rs rs' c c' := by subst e; exact Imp.refl hb
theorem Imp.junk {c : C} : Imp rs rs' c .junk := fun _ _ _ _ _ _ _ _ _ => by simp only [Den]
theorem Imp.un {x x' : C} (h : Imp rs rs' x x') : Imp rs rs' (.g true x) x' := fun av own0 n0 ν w y hR hC hd => h av own0 n0 ν w y hR hC (by simp only [Den] at hd; exact hd.1 trivial)
theorem Imp.nil : Imp rs rs' (.v (.slice none 0 0)) .nl := fun _ _ _ _ _ _ _ _ h => by simp only [Den] at h ⊢; exact ⟨_, h⟩
theorem Imp.F9 {sz : Nat} : Imp rs rs' (.v (.slice none 0 0)) (.sl sz []) := fun _ _ _ _ _ _ _ _ h => by
 simp only [Den, Fz] at h ⊢
 exact ⟨none, 0, h, c1I _, c1H _, fun h => by simp at h⟩
theorem Imp.frz {k e sz : Nat} {es es' : List (List C)} (hk : rs[k]? = some (.row e sz es)) (hd : rest rs' k = true) (he : es = es') : Imp rs rs' (.rv k) (.sl sz es') := fun av own0 n0 ν w y hR hC h => by
 subst he
 simp only [Den] at h ⊢
 obtain ⟨x, hx, hok⟩ := hR.res k _ hk
 rw [hx] at h
 obtain ⟨h, _⟩ := h
 injection h with h
 subst h
 obtain ⟨hl, vs, hF, h1, hrow⟩ := hok
 refine b4Z hrow rfl hl (FzL.keep (Keeps.sub hC.sub) hF) h1 fun b hb => ?_
 exact ⟨hR.lt hk hx hb, hC.dead k _ x b hd hk hx hb⟩
theorem Imp.win {k e sz n : Nat} {es : List (List C)} (hk : rs[k]? = some (.row e sz es)) (hn : n = es.length) (hb : k < rs'.length) : Imp rs rs' (.rv k) (.wv k sz 0 n) := fun av own0 n0 ν w y hR hC h => by
 subst hn
 simp only [Den] at h ⊢
 obtain ⟨x, hx, hok⟩ := hR.res k _ hk
 have h0 := h.1
 rw [hx] at h0
 injection h0 with h0
 subst h0
 obtain ⟨hl, vs, hF, h1, hrow⟩ := hok
 rcases hrow.2 with ⟨hn, A, hv⟩ | ⟨g, cap, cur, hv, h0, hg, hnc, hcm, _⟩
 ·exact ⟨A, 0, by rw [hv, hn], by omega, c1H _, fun h => by omega⟩
 ·exact ⟨_, cap, hv, hnc, hcm, fun _ => ⟨x, g, I5 hb hx, by rw [hv]; rfl, by rw [Nat.zero_mul], by rw [hv]; show cap = 0 + cap; omega⟩⟩
theorem Imp.M5 {k e sz lo n : Nat} {es es' : List (List C)} (hk : rs[k]? = some (.row e sz es)) (hd : rest rs' k = true) (hb : lo + n <= es.length) (he : (es.drop lo).take n = es') : Imp rs rs' (.wv k sz lo n) (.sl sz es') := fun av own0 n0 ν w y hR hC h => by
 subst he
 simp only [Den] at h ⊢
 simp only [Fz]
 obtain ⟨A, c, rfl, hc1, hcm, hA⟩ := h
 have hlen : ((es.drop lo).take n).length = n := by rw [c1M, c2l]; omega
 rw [hlen]
 refine ⟨A, c, rfl, hc1, hcm, fun h0 => ?_⟩
 obtain ⟨x, b, hx, hhead, rfl, _⟩ := hA (by omega)
 obtain ⟨x', hx', hok⟩ := hR.res k _ hk
 rw [hx] at hx'
 injection hx' with hx'
 subst hx'
 obtain ⟨hl, vs, hF, h1, hrow⟩ := hok
 rcases hrow.2 with ⟨hn, _⟩ | ⟨g, cap, cur, hv, h0', hg, hnc, _⟩
 ·omega
 ·subst hv
  simp only [a4M, Option.some.injEq] at hhead
  subst hhead
  have hfp : fp (.row e sz es) (.slice (some ⟨g, 0, none⟩) es.length cap) g := by simp only [fp, D7]; rw [if_neg (by omega)]
  refine ⟨_, rfl, hR.lt hk hx hfp, hC.dead k _ _ g hd hk hx hfp, FzE.of fun i q hq => ?_⟩
  rw [List.getElem?_take] at hq
  split at hq
  ·rw [c2m] at hq
   refine ⟨hl q (c1A hq), ?_⟩
   have hseg := a2p hl hq
   have hF' := FzL.keep (Keeps.sub hC.sub) hF
   have hsub : FzL w (OO av rs' (ν.take rs'.length)) q ((vs.drop ((lo + i) * sz)).take sz) := by
    have := (hF'.drop ((lo + i) * sz)).take sz
    rwa [hseg] at this
   refine FzA.of hsub (fun u hu => h1 u (List.mem_of_mem_drop (List.mem_of_mem_take hu))) fun j v hv => ?_
   rw [List.getElem?_take] at hv
   split at hv
   ·rw [c2m] at hv
    have := hrow.cells _ v hv
    rw [G5] at this ⊢
    rw [<- this]
    congr 2
    rw [c2e, Nat.add_mul]
    omega
   ·cases hv
  ·cases hq
theorem Imp.fbx {k off t : Nat} {cs cs' : List C} (hk : rs[k]? = some (.box t cs)) (hd : rest rs' k = true) (hc : j5 rs rs' cs cs') (hcl : C.clL cs' = true) (ho : off = 0) : Imp rs rs' (.bp k off) (.ep cs') := fun av own0 n0 ν w y hR hC h => by
 subst ho
 simp only [Den] at h ⊢
 obtain ⟨x, hx, hok⟩ := hR.res k _ hk
 obtain ⟨b, h, rfl⟩ := h
 rw [hx] at h
 injection h with h
 subst h
 obtain ⟨b', vs, hb', hD, h1, hh⟩ := hok
 cases hb'
 have hF : FzL w (OO av rs' (ν.take rs'.length)) cs' vs := by
  refine l6.fz (ν := ν.take rs'.length) hcl ?_
  clear hk hh h1 hcl
  induction cs generalizing cs' vs with
  | nil => cases cs' <;> first | exact hD | exact hc.elim
  | cons c cs ih =>
   cases cs' with
   | nil => exact hc.elim
   | cons c' cs' =>
    simp only [l6] at hD ⊢
    obtain ⟨y, ys, rfl, g1, g2⟩ := hD
    exact ⟨y, ys, rfl, hc.1 av own0 n0 ν w y hR hC g1, ih hc.2 _ g2⟩
 simp only [Fz]
 refine ⟨_, rfl, hR.lt hk hx rfl, hC.dead k _ _ b hd hk hx rfl, FzA.of hF h1 fun i v hv => ?_⟩
 rw [G5, c2e, c2e, cell_of_row _ b i _ _ _ hh]
 simpa using hv
theorem j5.den {cs cs' : List C} {av own0 : Nat -> Prop} {n0 : Nat} {ν : List Value} {w : World} {vs : List Value} (h : j5 rs rs' cs cs') (hR : RG av own0 n0 ν rs w) (hC : Cut av rs rs' ν) (hd : l6 ν w (OO av rs ν) cs vs) :
  l6 (ν.take rs'.length) w (OO av rs' (ν.take rs'.length)) cs' vs := by
 induction cs generalizing cs' vs with
 | nil => cases cs' <;> first | exact hd | exact h.elim
 | cons c cs ih =>
  cases cs' with
  | nil => exact h.elim
  | cons c' cs' =>
   simp only [l6] at hd ⊢
   obtain ⟨y, ys, rfl, g1, g2⟩ := hd
   exact ⟨y, ys, rfl, h.1 av own0 n0 ν w y hR hC g1, ih h.2 g2⟩
theorem Imp.agg {cs cs' : List C} (h : j5 rs rs' cs cs') : Imp rs rs' (.agg cs) (.agg cs') := fun av own0 n0 ν w y hR hC hd => by
 simp only [Den] at hd ⊢
 obtain ⟨vs, h1, h2⟩ := hd
 exact ⟨vs, h.den hR hC h1, h2⟩
theorem Imp.tup {cs cs' : List C} (h : j5 rs rs' cs cs') : Imp rs rs' (.tup cs) (.tup cs') := fun av own0 n0 ν w y hR hC hd => by
 simp only [Den] at hd ⊢
 obtain ⟨vs, h1, h2⟩ := hd
 exact ⟨vs, h.den hR hC h1, h2⟩
theorem Imp.clo {f : Nat} {cs cs' : List C} (h : j5 rs rs' cs cs') : Imp rs rs' (.clo f cs) (.clo f cs') := fun av own0 n0 ν w y hR hC hd => by
 simp only [Den] at hd ⊢
 obtain ⟨vs, h1, h2⟩ := hd
 exact ⟨vs, h.den hR hC h1, h2⟩
theorem Imp.g {p : Bool} {x x' : C} (h : Imp rs rs' x x') : Imp rs rs' (.g p x) (.g p x') := fun av own0 n0 ν w y hR hC hd => by
 simp only [Den] at hd ⊢
 exact ⟨fun hp => h av own0 n0 ν w y hR hC (hd.1 hp), hd.2⟩
theorem j5.nil : j5 rs rs' [] [] := trivial
theorem j5.cons {c c' : C} {cs cs' : List C} (h : Imp rs rs' c c') (hs : j5 rs rs' cs cs') : j5 rs rs' (c :: cs) (c' :: cs') := ⟨h, hs⟩
theorem j5.refl {cs : List C} (hb : C.bdL rs'.length cs = true) : j5 rs rs' cs cs := by
 induction cs with
 | nil => trivial
 | cons c cs ih => simp only [C.bdL, c1J] at hb; exact ⟨Imp.refl hb.1, ih hb.2⟩
theorem j5.eq {cs cs' : List C} (e : cs = cs') (hb : C.bdL rs'.length cs' = true) : j5 rs rs' cs cs' := by subst e; exact j5.refl hb
end
def a0o (rs rs' : List Res) (fr : List (Nat × C)) : List (Nat × C) -> Prop
 | [] => True
 | (t, s) :: r => Imp rs rs' (slot fr t) s /\ a0o rs rs' fr r
theorem a0o.nil {rs rs' : List Res} {fr : List (Nat × C)} : a0o rs rs' fr [] := trivial
theorem a0o.cons {rs rs' : List Res} {fr r : List (Nat × C)} {t : Nat} {s : C} (h : Imp rs rs' (slot fr t) s) (hr : a0o rs rs' fr r) : a0o rs rs' fr ((t, s) :: r) := ⟨h, hr⟩
inductive RI (rs rs' : List Res) : Res -> Res -> Prop where
 | gone (r : Res) : RI rs rs' r .gone
 | row (e sz : Nat) (es es' : List (List C)) (h : es = es') : RI rs rs' (.row e sz es) (.row e sz es')
 | map (s : Bool) (es es' : List (Value × Value)) (h : es = es') : RI rs rs' (.map s es) (.map s es')
 | box (t : TypeId) (cs cs' : List C) (h : j5 rs rs' cs cs') : RI rs rs' (.box t cs) (.box t cs')
def L9 (rs rs' : List Res) : List Res -> List Res -> Prop
 | [], _ => True
 | _ :: _, [] => False
 | r' :: l', r :: l => RI rs rs' r r' /\ L9 rs rs' l' l
theorem L9.nil {rs rs' l : List Res} : L9 rs rs' [] l := by cases l <;> trivial
theorem L9.cons {rs rs' l l' : List Res} {r r' : Res} (h : RI rs rs' r r') (hl : L9 rs rs' l' l) : L9 rs rs' (r' :: l') (r :: l) := ⟨h, hl⟩
theorem a4i {rs rs' : List Res} : ∀ {l' l : List Res}, L9 rs rs' l' l -> R3 l' l = true
 | [], _, _ => by simp [R3]
 | _ :: _, [], h => h.elim
 | r' :: l', r :: l, h => by
  simp only [R3, c1J]
  exact ⟨by cases h.1 <;> rfl, a4i h.2⟩
theorem b1A {rs rs' : List Res} : ∀ {l' l : List Res} {k : Nat} {r' : Res}, L9 rs rs' l' l -> l'[k]? = some r' -> ∃ r, l[k]? = some r /\ RI rs rs' r r'
 | [], _, k, r', _, h => by simp at h
 | _ :: _, [], _, _, h, _ => h.elim
 | r0 :: l', r :: l, 0, r', h, hk => by
  simp at hk
  subst hk
  exact ⟨r, rfl, h.1⟩
 | r0 :: l', r :: l, k + 1, r', h, hk => by
  obtain ⟨q, h1, h2⟩ := b1A (k := k) h.2 (by simpa using hk)
  exact ⟨q, by simpa using h1, h2⟩
theorem a9c {rs rs' : List Res} {fr : List (Nat × C)} : ∀ {fr' : List (Nat × C)} (t : Nat), a0o rs rs' fr fr' -> Imp rs rs' (slot fr t) (slot fr' t)
 | [], t, _ => Imp.junk
 | (t', s) :: r, t, h => by
  simp only [slot]
  cases hb : (t' == t) with
  | true =>
   have : t' = t := by simpa using hb
   subst this
   exact h.1
  | false => exact a9c t h.2
theorem RG.weak {av own0 : Nat -> Prop} {n0 : Nat} {ν : List Value} {rs rs' : List Res} {w : World} (hR : RG av own0 n0 ν rs w) (h : L9 rs rs' rs' rs) : RG av own0 n0 (ν.take rs'.length) rs' w := by
 have hk := a4i h
 have hC : Cut av rs rs' ν := Cut.of hR hk
 have hlen := a7w hk
 refine ⟨by rw [c1M, hR.len]; omega, fun k r' hr' => ?_, fun k l r r' x x' b hne h1 h2 h3 h4 h5 h6 => ?_, fun b hb => ?_, hR.av, hR.n0⟩
 ·obtain ⟨r, hr, hI⟩ := b1A h hr'
  obtain ⟨x, hx, hok⟩ := hR.res k r hr
  have hlt : k < rs'.length := (c1F.1 hr').1
  refine ⟨x, I5 hlt hx, ?_⟩
  cases hI with
  | gone => trivial
  | row e sz es es' he =>
   subst he
   obtain ⟨g1, vs, g2, g3⟩ := hok
   exact ⟨g1, vs, FzL.keep (Keeps.sub hC.sub) g2, g3⟩
  | map s es es' he => subst he; exact hok
  | box t cs cs' he =>
   obtain ⟨b, vs, g1, g2, g3⟩ := hok
   exact ⟨b, vs, g1, he.den hR hC g2, g3⟩
 ·obtain ⟨q, hq, hI⟩ := a1S hk h1
  obtain ⟨q', hq', hI'⟩ := a1S hk h2
  rcases hI with rfl | hI
  ·exact h5.elim
  rcases hI' with rfl | hI'
  ·exact h6.elim
  rw [hI] at h5
  rw [hI'] at h6
  exact hR.dis k l q q' x x' b hne hq hq' (V4 h3) (V4 h4) h5 h6
 ·obtain ⟨l, r', x, h1, h2, h3⟩ := hb
  obtain ⟨r, hr, hI⟩ := a1S hk h1
  rcases hI with rfl | hI
  ·exact h3.elim
  ·exact hR.low b ⟨l, r, x, hr, V4 h2, by rw [<- hI]; exact h3⟩
theorem Ent.mk {E : Ctx} {st : St} (fr' : List (Nat × C)) (rs' : List Res) (h1 : a0o st.rs rs' st.fr fr') (h2 : L9 st.rs rs' rs' st.rs) (h3 : E.nu0.length <= rs'.length) : Ent E st ⟨fr', rs'⟩ := by
 intro wf ν a w hG
 exact ⟨ν.take rs'.length, hG.dfr, hG.size, fun t => a9c t h1 _ _ _ ν w _ hG.rg (Cut.of hG.rg (a4i h2)) (hG.fr t), hG.rg.weak h2, hG.frm, fun k x hk hx => I5 (c1S (c1F.1 hx).1 h3) (hG.nu k x hk hx)⟩
theorem Ent.refl {E : Ctx} {st : St} : Ent E st st := fun _ ν _ _ hG => ⟨ν, hG⟩
theorem Ent.trans {E : Ctx} {st st' st'' : St} (h : Ent E st st') (h' : Ent E st' st'') : Ent E st st'' := fun wf ν a w hG => let ⟨ν', hG'⟩ := h wf ν a w hG; h' wf ν' a w hG'
def isNil : C -> Bool
 | .v (.slice none 0 0) => true
 | .nl => true
 | _ => false
theorem a8Q {c : C} {ν : List Value} {w : World} {O : Nat -> Prop} {y : Value} (h : isNil c = true) (hd : Den ν w O c y) : ∃ A, y = .slice A 0 0 := by
 unfold isNil at h
 split at h
 ·simp only [Den] at hd; exact ⟨none, hd⟩
 ·simpa only [Den] using hd
 ·cases h
theorem b3i {av own0 : Nat -> Prop} {n0 : Nat} {ν : List Value} {rs : List Res} {w : World} (hR : RG av own0 n0 ν rs w) (A : Option Addr) (e sz : Nat) :
  RG av own0 n0 (ν ++ [.slice A 0 0]) (rs ++ [.row e sz []]) w /\ Mv rs ν w [] (rs ++ [.row e sz []]) (ν ++ [.slice A 0 0]) w := by
 refine hR.add (Below.refl _ _) (fun b hb => ?_) fun _ _ => ?_
 ·simp only [fp] at hb
  cases A <;> simp [D7] at hb
 ·exact ⟨(fun c hc => by cases hc), [], by simp [FzL], (fun u hu => by cases hu), by simp, Or.inl ⟨rfl, A, rfl⟩⟩
theorem Ent.pack {E : Ctx} {fr : List (Nat × C)} {rs : List Res} (t e sz : Nat) (h : isNil (slot fr t) = true) : Ent E ⟨fr, rs⟩ ⟨(t, .rv rs.length) :: fr, rs ++ [.row e sz []]⟩ := by
 intro wf ν a w hG
 obtain ⟨A, hA⟩ := a8Q h (hG.fr t)
 obtain ⟨h1, h2⟩ := b3i hG.rg A e sz
 refine ⟨ν ++ [.slice A 0 0], hG.dfr, hG.size, fun t' => ?_, h1, hG.frm, fun k x hk hx => h2.nu k x (by simp) (hG.nu k x hk hx)⟩
 show Den _ w (OO E.av (rs ++ [.row e sz []]) (ν ++ [.slice A 0 0])) (slot ((t, .rv rs.length) :: fr) t') _
 simp only [slot]
 cases hb : (t == t') with
 | true =>
  have : t = t' := by simpa using hb
  subst this
  simp only [cond_true, Den]
  rw [hA]
  refine ⟨?_, A, 0, 0, rfl⟩
  have := hG.rg.len
  rw [<- this]
  simp
 | false => exact Den.nu h2.nu (fun k hk => by cases hk) (Den.keep h2.keeps (hG.fr t'))
theorem Ent.a3n {E : Ctx} {fr : List (Nat × C)} {rs : List Res} (k j e sz : Nat) {t : TypeId} {cs : List C} {c : C} (hk : rs[k]? = some (.box t cs)) (hj : cs[j]? = some c) (h : isNil c = true) :
  Ent E ⟨fr, rs⟩ ⟨fr, (rs ++ [Res.row e sz []]).set k (.box t (cs.set j (.rv rs.length)))⟩ := by
 intro wf ν a w hG
 obtain ⟨x, hx, b, vs, rfl, hD, h1, hh⟩ := hG.rg.res k _ hk
 obtain ⟨y, hy, hd⟩ := hD.get hj
 obtain ⟨A, rfl⟩ := a8Q h hd
 obtain ⟨g1, g2⟩ := b3i hG.rg A e sz
 have hkl : k < rs.length := (c1F.1 hk).1
 have hkl' : k < ν.length := by rw [hG.rg.len]; exact hkl
 have hk' : (rs ++ [Res.row e sz []])[k]? = some (.box t cs) := by rw [c1K hkl]; exact hk
 have hx' : (ν ++ [.slice A 0 0])[k]? = some (.pointer (some ⟨b, 0, none⟩)) := by rw [c1K hkl']; exact hx
 have hu := g1.upd (r' := .box t (cs.set j (.rv rs.length))) hk' hx' ⟨rfl, rfl, rfl, c1I _, fun _ _ _ => rfl⟩ (fun _ h => h) fun hkp => by
  refine ⟨b, vs, rfl, ?_, h1, hh⟩
  have hD' : l6 (ν ++ [.slice A 0 0]) w (OO E.av ((rs ++ [Res.row e sz []]).set k (.box t (cs.set j (.rv rs.length)))) (ν ++ [.slice A 0 0])) cs vs := by
   have := l6.keep hkp (l6.y7 g2.nu (l6.keep (g2.keeps (av := E.av)) hD))
   rwa [show cs.map (C.y7 []) = cs from List.map_id' cs] at this
  have key : ∀ (cs : List C) (vs : List Value) (j : Nat) (c' : C) (O : Nat -> Prop) (ν : List Value), l6 ν w O cs vs -> (∀ y, vs[j]? = some y -> Den ν w O c' y) -> l6 ν w O (cs.set j c') vs := by
   intro cs
   induction cs with
   | nil => intro vs j c' O ν h _; simpa using h
   | cons c cs ih =>
    intro vs j c' O ν h h2
    simp only [l6] at h
    obtain ⟨y, ys, rfl, k1, k2⟩ := h
    cases j with
    | zero => exact ⟨y, ys, rfl, h2 y rfl, k2⟩
    | succ j => exact ⟨y, ys, rfl, k1, ih ys j c' O ν k2 fun z hz => h2 z (by simpa using hz)⟩
  refine key cs vs j _ _ _ hD' fun z hz => ?_
  rw [hy] at hz
  injection hz with hz
  subst hz
  simp only [Den]
  refine ⟨?_, A, 0, 0, rfl⟩
  have := hG.rg.len
  rw [<- this]
  simp
 refine ⟨ν ++ [.slice A 0 0], hG.dfr, hG.size, fun t' => ?_, hu.1, hG.frm, fun k x hk hx => g2.nu k x (by simp) (hG.nu k x hk hx)⟩
 exact Den.keep hu.2.keeps (Den.nu g2.nu (fun k hk => by cases hk) (Den.keep g2.keeps (hG.fr t')))
def j6 : Nat -> List C -> List (Nat × C)
 | _, [] => []
 | n, s :: r => (n, s) :: j6 (n + 1) r
theorem a8R : ∀ (n : Nat) (cs : List C) (t : Nat), slot (j6 n cs) t = if t < n then .junk else (cs[t - n]?).getD .junk
 | n, [], t => by simp [j6, slot]
 | n, s :: r, t => by
  simp only [j6, slot]
  by_cases h : n = t
  ·subst h; simp
  ·have : (n == t) = false := by simpa using h
   rw [this]
   simp only [cond_false]
   rw [a8R (n + 1) r t]
   by_cases h2 : t < n
   ·rw [if_pos (by omega), if_pos h2]
   ·rw [if_neg (by omega), if_neg h2]
    have : t - n = (t - (n + 1)) + 1 := by omega
    rw [this]
    rfl
def one (vs : List Value) : Value :=
 match vs with
 | [v] => v
 | vs => .tuple vs.toArray
def a8u : List C -> C
 | [c] => c
 | cs => .tup cs
def p8 (fr : List (Nat × C)) (rs : List Res) : List RV -> (List C -> Prop) -> Prop
 | [], K => K []
 | .tmp t :: l, K => p8 fr rs l fun cs => K (slot fr t :: cs)
 | .cell t agg sz :: l, K => l7 rs agg sz (slot fr t) fun c => p8 fr rs l fun cs => K (c :: cs)
def a1p (tmps : Array Value) : ResultVar -> Go.Sem Value
 | .tmp t => pure (tmps.getD t undef)
 | .cell a t => do loadVar t (<- asAddr (tmps.getD a undef))
theorem b3X (fn : Func) (tmps : Array Value) : results fn tmps = (do
  let vs <- fn.results.mapM (a1p tmps)
  pure (if h : vs.size = 1 then vs[0] else .tuple vs)) := by
 unfold results
 congr 1
section
variable {fr : List (Nat × C)} {rs : List Res}
theorem a5V : ∀ {rvs : List RV} {K : List C -> Prop}, p8 fr rs rvs K -> ∃ cs, K cs /\ ∀ (P : Program) (ν : List Value) (w : World) (O : Nat -> Prop) (tmps : Array Value) (l : List ResultVar), HR ν w O rs -> (∀ t, Den ν w O (slot fr t) (tmps.getD t undef)) ->
    O9 P l = some rvs -> ∃ vs, l6 ν w O cs vs /\ (l.mapM (a1p tmps)).run P w = .ok vs w
  | [], K, h => ⟨[], h, fun P ν w O tmps l _ _ hl => ⟨[], by simp [l6], by
      cases l with
      | nil => simp
      | cons r l =>
        exfalso
        cases r with
        | tmp t => simp only [O9] at hl; split at hl <;> simp at hl
        | cell a t => simp only [O9] at hl; split at hl <;> simp at hl⟩⟩
  | .tmp t :: rvs, K, h => by
    obtain ⟨cs, hk, hall⟩ := a5V (rvs := rvs) h
    refine ⟨_, hk, fun P ν w O tmps l hR hF hl => ?_⟩
    cases l with
    | nil => simp [O9] at hl
    | cons r l =>
      cases r with
      | tmp t' =>
        simp only [O9] at hl
        split at hl
        · rename_i l' hl'
          injection hl with hl
          injection hl with e1 e2
          injection e1 with e1
          subst e1 e2
          obtain ⟨vs, h1, h2⟩ := hall P ν w O tmps l hR hF hl'
          refine ⟨_ :: vs, ⟨_, vs, rfl, hF t', h1⟩, ?_⟩
          rw [List.mapM_cons]
          simp only [a1p, Sem.run_bind, Sem.run_pure, Result.andThen_ok]
          rw [h2]
          rfl
        · cases hl
      | cell a t =>
        simp only [O9] at hl
        split at hl
        · injection hl with hl; injection hl with e1 e2; cases e1
        · cases hl
  | .cell t agg sz :: rvs, K, h => by
    obtain ⟨c, hc, hld⟩ := a6Z h
    obtain ⟨cs, hk, hall⟩ := a5V (rvs := rvs) hc
    refine ⟨_, hk, fun P ν w O tmps l hR hF hl => ?_⟩
    cases l with
    | nil => simp [O9] at hl
    | cons r l =>
      cases r with
      | tmp t' =>
        simp only [O9] at hl
        split at hl
        · injection hl with hl; injection hl with e1 e2; cases e1
        · cases hl
      | cell a ty =>
        simp only [O9] at hl
        split at hl
        · rename_i i d l' hi hd hl'
          injection hl with hl
          injection hl with e1 e2
          injection e1 with e1 e3 e4
          subst e1 e2
          obtain ⟨y, hy, hrun⟩ := hld P ty i d ν w O (tmps.getD a undef) hi hd e3 e4 hR (hF a)
          obtain ⟨vs, h1, h2⟩ := hall P ν w O tmps l hR hF hl'
          refine ⟨y :: vs, ⟨y, vs, rfl, hy, h1⟩, ?_⟩
          rw [List.mapM_cons]
          have hrd : (a1p tmps (.cell a ty)).run P w = .ok y w := by
            simp only [a1p]
            revert hrun
            generalize tmps.getD a undef = x
            intro hrun
            revert hrun
            cases x with
            | pointer p =>
              cases p with
              | some ad => intro hrun; simpa [Instr.loadAt, Instr.sureAddr, asAddr] using hrun
              | none => intro hrun; simp [Instr.loadAt, Instr.sureAddr, runtimePanic] at hrun
            | _ => intro hrun; simp [Instr.loadAt, Instr.sureAddr] at hrun
          simp only [Sem.run_bind, hrd, Result.andThen_ok]
          rw [h2]
          rfl
        · cases hl
end
def Fin (P : Program) (rvs : List RV) (R : Value -> World -> Prop) : Exit -> Act -> World -> Prop
 | .normal, a, w => a.defers = [] /\ ∀ l, O9 P l = some rvs -> ∃ vs, (l.mapM (a1p a.tmps)).run P w = .ok vs w /\ R (one vs) w
 | .ret, a, w => a.defers = [] /\ ∀ l, O9 P l = some rvs -> ∃ vs, (l.mapM (a1p a.tmps)).run P w = .ok vs w /\ R (one vs) w
 | _, _, _ => False
def d9 (E : Ctx) (rs : List Res) (R : Value -> World -> Prop) (cs : List C) : Prop := Wf E -> ∀ ν w y, RG E.av E.own0 E.w0.heap.size ν rs w -> Frm E.own0 E.w0 w -> U5 E.pk0 E.nu0 ν -> Den ν w (OO E.av rs ν) (a8u cs) y -> R y w
theorem b6b {ν : List Value} {w : World} {O : Nat -> Prop} {cs : List C} {vs : List Value} (h : l6 ν w O cs vs) : Den ν w O (a8u cs) (one vs) := by
 have hl := h.length
 match cs, vs with
 | [], [] => exact ⟨[], h, rfl⟩
 | [c], [v] =>
  simp only [l6] at h
  obtain ⟨y, ys, e, h1, rfl⟩ := h
  injection e with e1 e2
  subst e1
  exact h1
 | c :: c' :: cs, v :: v' :: vs => exact ⟨_, h, rfl⟩
 | [], _ :: _ => simp at hl
 | [_], [] => simp at hl
 | [_], _ :: _ :: _ => simp at hl
 | _ :: _ :: _, [] => simp at hl
 | _ :: _ :: _, [_] => simp at hl
theorem b0e {E : Ctx} {st : St} {rvs : List RV} {R : Value -> World -> Prop} (h : p8 st.fr st.rs rvs (d9 E st.rs R)) (wf : Wf E) {ν : List Value} {a : Act} {w : World} (hG : Good E ν st a w) :
  a.defers = [] /\ ∀ l, O9 E.P l = some rvs -> ∃ vs, (l.mapM (a1p a.tmps)).run E.P w = .ok vs w /\ R (one vs) w := by
 obtain ⟨cs, hk, hall⟩ := a5V h
 refine ⟨hG.dfr, fun l hl => ?_⟩
 obtain ⟨vs, h1, h2⟩ := hall E.P ν w (OO E.av st.rs ν) a.tmps l hG.rg.hr hG.fr hl
 exact ⟨vs, h2, hk wf ν w _ hG.rg hG.frm hG.nu (b6b h1)⟩
theorem S.done {E : Ctx} {st : St} {k : List It} {rvs : List RV} {R : Value -> World -> Prop} (h : p8 st.fr st.rs rvs (d9 E st.rs R)) : S E (Fin E.P rvs R) st (.code .ret :: k) :=
 S.ret fun wf _ _ _ hG => b0e h wf hG
theorem S.end_ {E : Ctx} {st : St} {rvs : List RV} {R : Value -> World -> Prop} (h : p8 st.fr st.rs rvs (d9 E st.rs R)) : S E (Fin E.P rvs R) st [] :=
 S.nil fun wf _ _ _ hG => b0e h wf hG
def Out (E : Ctx) (r : C) (y : Value) (w : World) : Prop := Below E.w0.heap.size E.w0 w /\ Fz w E.av r y
theorem d9.out {E : Ctx} (hown : E.own0 = fun _ => False) {rs : List Res} {cs : List C} {r : C} (h : Imp rs [] (a8u cs) r) (hcl : r.cl = true) : d9 E rs (Out E r) cs := by
 intro wf ν w y hR hF _ hd
 have hC : Cut E.av rs [] ν := Cut.of hR (by simp [R3])
 have h1 := h E.av E.own0 E.w0.heap.size ν w y hR hC hd
 refine ⟨⟨hF.os, hF.tape, hF.output, hF.size, fun b hb => hF.block b hb (by rw [hown]; exact fun h => h)⟩, Fz.keep (Keeps.sub fun b hb => .inl hb) (Den.fz hcl h1)⟩
def b3n (E : Ctx) (rs' : List Res) (s : C) (y : Value) (w : World) : Prop :=
 ∃ ν', RG E.av E.own0 E.w0.heap.size ν' rs' w /\ Frm E.own0 E.w0 w /\ U5 E.pk0 E.nu0 ν' /\ Den ν' w (OO E.av rs' ν') s y
theorem d9.own {E : Ctx} {rs : List Res} {cs : List C} {s : C} (h : a8u cs = s) : d9 E rs (b3n E rs s) cs := by
 subst h
 exact fun wf ν w y hR hF hN hd => ⟨ν, hR, hF, hN, hd⟩
theorem d9.O1 {E : Ctx} {rs rs' : List Res} {cs : List C} {s : C} (h : Imp rs rs' (a8u cs) s) (h2 : L9 rs rs' rs' rs) (h3 : E.nu0.length <= rs'.length) : d9 E rs (b3n E rs' s) cs :=
 fun wf ν w y hR hF hN hd => ⟨ν.take rs'.length, hR.weak h2, hF, fun k x hk hx => I5 (c1S (c1F.1 hx).1 h3) (hN k x hk hx), h _ _ _ ν w y hR (Cut.of hR (a4i h2)) hd⟩
theorem b1p {E : Ctx} {f : Nat} {fn : Func} {ir : a1U} {args : List Value} {w : World} {R : Value -> World -> Prop} (hf : E.P.funcs[f]? = some fn) (hc : a0r E.eff E.P fn = some ir) (hN : E.N = ir.ntmps) (hw : E.w0 = w) (wf : Wf E)
  (rs : List Res) (hrg : RG E.av E.own0 w.heap.size E.nu0 rs w) (cs : List C) (hargs : l6 E.nu0 w (OO E.av rs E.nu0) cs args) (hn : cs.length <= ir.ntmps)
  (h : S E (Fin E.P ir.results R) ⟨j6 0 cs, rs⟩ [.code ir.body]) : Calls E.P f args.toArray w fun e w' => ∃ y, e = .returned y /\ R y w' := by
 unfold a0r at hc
 split at hc
 ·rename_i c rvs hb hrs
  split at hc
  ·rename_i ic hic
   injection hc with hc
   subst hc
   refine calls_of_wp hf hb ?_
   have hal := hargs.length
   have hn' : args.length <= fn.ntmps := by rw [hal]; exact hn
   have hG : Good E E.nu0 ⟨j6 0 cs, rs⟩ { tmps := args.toArray ++ Array.replicate (fn.ntmps - args.toArray.size) undef, defers := [] } w := by
    refine ⟨rfl, ?_, fun t => ?_, by rw [hw]; exact hrg, by rw [hw]; exact ⟨rfl, rfl, rfl, c1I _, fun _ _ _ => rfl⟩, fun k x _ hx => hx⟩
    ·simp [hN]
     omega
    ·show Den E.nu0 w _ (slot (j6 0 cs) t) _
     rw [a8R]
     simp only [Nat.not_lt_zero, if_false, Nat.sub_zero]
     cases hs : cs[t]? with
     | none => simp [Den]
     | some s =>
      obtain ⟨y, hy, hd⟩ := hargs.get hs
      have hlt : t < args.length := (c1F.1 hy).1
      have : (args.toArray ++ Array.replicate (fn.ntmps - args.toArray.size) undef).getD t undef = y := by
       rw [Array.getD_eq_getD_getElem?, Array.getElem?_append_left (by simpa using hlt)]
       simp [hy]
      rw [this]
      exact hd
   refine wp_mono (h wf E.nu0 _ w hG c (by rw [hN]; exact hic)) fun e a' w' hq => ?_
   have fin : ∀ (a' : Act) (w' : World), (a'.defers = [] /\ ∀ l, O9 E.P l = some rvs -> ∃ vs, (l.mapM (a1p a'.tmps)).run E.P w' = .ok vs w' /\ R (one vs) w') -> a'.defers = [] /\ ∃ v, (results fn a'.tmps).run E.P w' = .ok v w' /\ ∃ y, Ending.returned v = .returned y /\ R y w' := by
    intro a' w' ⟨h1, h2⟩
    obtain ⟨vs, h3, h4⟩ := h2 _ hrs
    refine ⟨h1, one vs, ?_, _, rfl, h4⟩
    rw [b3X, Array.mapM_eq_mapM_toList, Sem.run_bind, Sem.run_map, h3]
    simp only [Result.andThen_ok, Sem.run_pure]
    congr 1
    match vs with
    | [] => rfl
    | [t] => rfl
    | a :: b :: l => simp [one]
   cases e with
   | normal => exact fin a' w' hq
   | ret => exact fin a' w' hq
   | exit id => simp only [exS, Fin] at hq
   | goto l => simp only [Fin] at hq
   | panic c => simp only [Fin] at hq
   | outgrown => simp only [Fin] at hq
  ·cases hc
 ·cases hc
theorem enter {eff : Nat -> Bool} {P : Program} {f : Nat} {fn : Func} {ir : a1U} {args : List Value} {w : World} {R : Value -> World -> Prop} (hf : P.funcs[f]? = some fn) (hc : a0r eff P fn = some ir)
    (O : Nat -> Prop) (hO : ∀ b, O b -> b < w.heap.size) (cs : List C) (hargs : FzL w O cs args) (hn : cs.length <= ir.ntmps)
    (h : S ⟨P, eff, ir.ntmps, w, fun _ => False, O, [], []⟩ (Fin P ir.results R) ⟨j6 0 cs, []⟩ [.code ir.body]) : Calls P f args.toArray w fun e w' => ∃ y, e = .returned y /\ R y w' := by
  refine b1p (E := ⟨P, eff, ir.ntmps, w, fun _ => False, O, [], []⟩) hf hc rfl rfl hO [] ⟨rfl, fun k r hk => by simp at hk, fun k l r r' x x' b _ hk => by simp at hk, fun b hb => ?_, hO, c1I _⟩ cs ?_ hn h
  · obtain ⟨k, r, x, hk, _⟩ := hb
    simp at hk
  · exact (FzL.keep (Keeps.sub fun b hb => by
      rcases hb with hb | ⟨k, r, x, hk, _⟩
      · exact hb
      · simp at hk) hargs).den []
theorem l8.of {E : Ctx} {eff : Nat -> Bool} {f : Nat} {fn : Func} {ir : a1U} (hf : E.P.funcs[f]? = some fn) (hc : a0r eff E.P fn = some ir) {rs : List Res} {args : List C} {s : C} {rs' : List Res} {pk : List Nat} (hn : args.length <= ir.ntmps)
  (h : ∀ w own av ν, ν.length = rs.length -> S ⟨E.P, eff, ir.ntmps, w, own, av, ν, pk⟩ (Fin E.P ir.results (b3n ⟨E.P, eff, ir.ntmps, w, own, av, ν, pk⟩ rs' s)) ⟨j6 0 args, rs⟩ [.code ir.body]) : l8 E rs f args s rs' pk := by
 intro av ν w vs hR hav hF hD
 have hR' : RG av (owned rs ν) w.heap.size ν rs w := ⟨hR.len, hR.res, hR.dis, fun b hb => ⟨(hR.low b hb).1, (hR.low b hb).2.1, .inl hb⟩, hR.av, c1I _⟩
 refine (b1p (E := ⟨E.P, eff, ir.ntmps, w, owned rs ν, av, ν, pk⟩) hf hc rfl rfl hR.av rs hR' args hD hn (h w (owned rs ν) av ν hR.len)).mono ?_
 rintro e w' ⟨y, rfl, ν', h1, h2, h3, h4⟩
 refine ⟨y, ν', rfl, ⟨h1.len, h1.res, h1.dis, fun b hb => ?_, h1.av, c1G hR.n0 h2.size⟩, ⟨h2.os, h2.tape, h2.output, h2.size, h2.block, fun b hb => (h1.low b hb).2.2, h3⟩, h4⟩
 obtain ⟨g1, g2, g3⟩ := h1.low b hb
 refine ⟨g1, g2, ?_⟩
 rcases g3 with g3 | g3
 ·exact (hR.low b g3).2.2
 ·exact .inr (c1G hR.n0 g3)
def u6 (P : Program) (f : Nat) (args : List C) (r : C) : Prop := ∀ (O : Nat -> Prop) (w : World) (vs : List Value), (∀ b, O b -> b < w.heap.size) -> FzL w O args vs ->
 Calls P f vs.toArray w fun e w' => ∃ y, e = .returned y /\ Below w.heap.size w w' /\ Fz w' O r y
theorem u6.of {eff : Nat -> Bool} {P : Program} {f : Nat} {fn : Func} {ir : a1U} (hf : P.funcs[f]? = some fn) (hc : a0r eff P fn = some ir) {args : List C} {r : C} (hn : args.length <= ir.ntmps)
  (h : ∀ w O, S ⟨P, eff, ir.ntmps, w, fun _ => False, O, [], []⟩ (Fin P ir.results (Out ⟨P, eff, ir.ntmps, w, fun _ => False, O, [], []⟩ r)) ⟨j6 0 args, []⟩ [.code ir.body]) : u6 P f args r := by
 intro O w vs hO hargs
 exact enter hf hc O hO args hargs hn (h w O)
mutual
def C.flat : C -> Bool
 | .v _ => true
 | .agg cs => C.a8f cs
 | .tup cs => C.a8f cs
 | .nl => true
 | .any _ => true
 | _ => false
def C.a8f : List C -> Bool
 | [] => true
 | c :: cs => C.flat c && C.a8f cs
end
section
variable {ν : List Value} {w : World} {O O' : Nat -> Prop}
mutual
theorem Fz.flat : ∀ {c : C} {y : Value}, c.flat = true -> Fz w O c y -> Den ν w O' c y
 | .v _, y, _, h => by simpa only [Fz, Den] using h
 | .agg cs, y, hc, h => by simp only [Fz, Den, C.flat] at h hc ⊢; obtain ⟨vs, h1, h2⟩ := h; exact ⟨vs, FzL.flat hc h1, h2⟩
 | .tup cs, y, hc, h => by simp only [Fz, Den, C.flat] at h hc ⊢; obtain ⟨vs, h1, h2⟩ := h; exact ⟨vs, FzL.flat hc h1, h2⟩
 | .nl, y, _, h => by simpa only [Fz, Den] using h
 | .any _, y, _, h => by simpa only [Fz, Den] using h
 | .sl _ _, y, hc, _ => by simp only [C.flat] at hc; cases hc
 | .ep _, y, hc, _ => by simp only [C.flat] at hc; cases hc
 | .clo _ _, y, hc, _ => by simp only [C.flat] at hc; cases hc
 | .bnd _ _, y, hc, _ => by simp only [C.flat] at hc; cases hc
 | .bp _ _, y, hc, _ => by simp only [C.flat] at hc; cases hc
 | .rv _, y, hc, _ => by simp only [C.flat] at hc; cases hc
 | .rp _ _ _ _, y, hc, _ => by simp only [C.flat] at hc; cases hc
 | .mp _, y, hc, _ => by simp only [C.flat] at hc; cases hc
 | .wv _ _ _ _, y, hc, _ => by simp only [C.flat] at hc; cases hc
 | .g _ _, y, hc, _ => by simp only [C.flat] at hc; cases hc
 | .junk, y, hc, _ => by simp only [C.flat] at hc; cases hc
theorem FzL.flat : ∀ {cs : List C} {vs : List Value}, C.a8f cs = true -> FzL w O cs vs -> l6 ν w O' cs vs
 | [], vs, _, h => by simpa only [FzL, l6] using h
 | c :: cs, vs, hc, h => by
  simp only [FzL, l6, C.a8f, c1J] at h hc ⊢
  obtain ⟨y, ys, e, h1, h2⟩ := h
  exact ⟨y, ys, e, Fz.flat hc.1 h1, FzL.flat hc.2 h2⟩
end
end
theorem a2C : ∀ (rs : List Res), R3 rs rs = true
 | [] => rfl
 | r :: rs => by simp only [R3, c1J]; exact ⟨by cases r <;> rfl, a2C rs⟩
theorem P6.spec {E : Ctx} {rs : List Res} {p : Bool} {f : Nat} {args args' : List C} {r : C} (hs : p = true -> u6 E.P f args' r) (hi : p = true -> j5 rs rs args args') (hcl : p = true -> C.clL args' = true) : P6 E rs p f args r := by
 intro hp av ν w vs hR hav hF hD
 have hlt : ∀ b, OO av rs ν b -> b < w.heap.size := fun b hb => by
  rcases hb with hb | hb
  ·exact hR.av b hb
  ·exact (hR.low b hb).1
 have hD' := (hi hp).den hR (Cut.of hR (a2C rs)) hD
 have et : ν.take rs.length = ν := by rw [<- hR.len]; exact c1U
 rw [et] at hD'
 refine (hs hp (OO av rs ν) w vs hlt (hD'.fz (hcl hp))).mono ?_
 rintro e w' ⟨y, rfl, h1, h2⟩
 exact ⟨y, rfl, h1, h2.den ν⟩
theorem P6.view {E : Ctx} {rs : List Res} {p : Bool} {f : Nat} {args args' : List C} {r : C} (hs : p = true -> u6 E.P f args' r) (hi : p = true -> j5 rs [] args args') (hcl : p = true -> C.clL args' = true) (hr : r.flat = true) : P6 E rs p f args r := by
 intro hp av ν w vs hR hav hF hD
 have hC : Cut av rs [] ν := Cut.of hR (by simp [R3])
 have hD' := (hi hp).den hR hC hD
 have hlt : ∀ b, OO av [] (ν.take ([] : List Res).length) b -> b < w.heap.size := fun b hb => by
  rcases hC.sub b hb with hb | hb
  ·exact hR.av b hb
  ·exact (hR.low b hb).1
 refine (hs hp _ w vs hlt (hD'.fz (hcl hp))).mono ?_
 rintro e w' ⟨y, rfl, h1, h2⟩
 exact ⟨y, rfl, h1, Fz.flat hr h2⟩
theorem l9.quiet {E : Ctx} {rs : List Res} {f : Nat} {args : List C} {K : C -> List Res -> List Nat -> Prop} {r : C} (h : P6 E rs true f args r) (hk : K r rs []) : l9 E rs f args K := by
 refine ⟨r, rs, [], hk, fun av ν w vs hR hav hF hD => (h rfl av ν w vs hR hav hF hD).mono ?_⟩
 rintro e w' ⟨y, rfl, h1, h2⟩
 exact ⟨y, ν, rfl, hR.below h1, Mv.of_below h1, h2⟩
theorem a0s.quiet {E : Ctx} {st : St} {p : Bool} {f : Nat} {args : List C} {ok : Prop} {d : Option Nat} {K : St -> Prop} {r : C} (hok : ok) (h : P6 E st.rs p f args r) (hk : KPg st p d K r) : a0s E st p f args ok d K := .inr ⟨hok, .inr (.inr ⟨r, h, hk⟩)⟩
theorem a0K.mk {E : Ctx} {rs : List Res} {p : Bool} {f : Nat} {args : List C} {K : C -> Prop} {r : C} (h : P6 E rs p f args r) (hk : K r) : a0K E rs p f args K := ⟨r, h, hk⟩
theorem l9.sp {E : Ctx} {rs : List Res} {f : Nat} {args : List C} {K : C -> List Res -> List Nat -> Prop} {r : C} (hs : u6 E.P f args r) (hb : (C.bdL rs.length args && C.clL args) = true) (hk : K r rs []) : l9 E rs f args K := by
 rw [c1J] at hb
 exact l9.quiet (P6.spec (fun _ => hs) (fun _ => j5.refl hb.1) (fun _ => hb.2)) hk
theorem a0K.sp {E : Ctx} {rs : List Res} {p : Bool} {f : Nat} {args : List C} {K : C -> Prop} {r : C} (hs : u6 E.P f args r) (hb : (C.bdL rs.length args && C.clL args) = true) (hk : K r) : a0K E rs p f args K := by
 rw [c1J] at hb
 exact a0K.mk (P6.spec (fun _ => hs) (fun _ => j5.refl hb.1) (fun _ => hb.2)) hk
theorem a0s.sp {E : Ctx} {st : St} {p : Bool} {f : Nat} {args : List C} {ok : Prop} {d : Option Nat} {K : St -> Prop} {r : C} (hs : u6 E.P f args r) (hb : (C.bdL st.rs.length args && C.clL args) = true) (hok : ok) (hk : KPg st p d K r) : a0s E st p f args ok d K := by
 rw [c1J] at hb
 exact a0s.quiet hok (P6.spec (fun _ => hs) (fun _ => j5.refl hb.1) (fun _ => hb.2)) hk
theorem l8.imp {E : Ctx} {rs : List Res} {f : Nat} {args args' : List C} {s : C} {rs' : List Res} {pk : List Nat} (h : l8 E rs f args' s rs' pk) (hi : j5 rs rs args args') : l8 E rs f args s rs' pk := by
 intro av ν w vs hR hav hF hD
 have hD' := hi.den hR (Cut.of hR (a2C rs)) hD
 have et : ν.take rs.length = ν := by rw [<- hR.len]; exact c1U
 rw [et] at hD'
 exact h av ν w vs hR hav hF hD'
theorem l9.t {E : Ctx} {rs : List Res} {f : Nat} {args : List C} {K : C -> List Res -> List Nat -> Prop} {s : C} {rs' : List Res} {pk : List Nat} (h : l8 E rs f args s rs' pk) (hk : K s rs' pk) : l9 E rs f args K := ⟨s, rs', pk, hk, h⟩
section
variable {E : Ctx} {st st' : St} {x x' : DS} {hid : List Res} {p p' : Bool} {d : Option Nat} {ov : Operand -> C} {rs rs' : List Res} {fr : List (Nat × C)}
@[congr] theorem ev_congr {l : List D9} {K : St -> Prop} (h : st = st') : ev E l st K = ev E l st' K := by rw [h]
@[congr] theorem ev1_congr {o : D9} {K : St -> Prop} (h : st = st') : ev1 E o st K = ev1 E o st' K := by rw [h]
@[congr] theorem evU_congr {o : IOp} {K : St -> Prop} (h : st = st') : evU E st d o K = evU E st' d o K := by rw [h]
@[congr] theorem evG_congr {o : IOp} {K : St -> Prop} (h : st = st') (hp : p = p') : evG E st p d o K = evG E st' p' d o K := by rw [h, hp]
@[congr] theorem CallH_congr {f : Nat} {l l' : List C} {ok ok' : Prop} {K : St -> Prop} (h : st = st') (hp : p = p') (hl : l = l') (ho : ok = ok') : a0s E st p f l ok d K = a0s E st' p' f l' ok' d K := by rw [h, hp, hl, ho]
@[congr] theorem evE_congr {o : IOp} {K : C -> List Res -> List Nat -> Prop} : evE E ov rs o K = evE E ov rs o K := rfl
@[congr] theorem pureP_congr {o : IOp} {K : C -> Prop} (hp : p = p') : E8 ov rs p o K = E8 ov rs p' o K := by rw [hp]
@[congr] theorem evQ_congr {o : IOp} {K : C -> Prop} (hp : p = p') : evQ E ov rs p o K = evQ E ov rs p' o K := by rw [hp]
@[congr] theorem evQ1_congr {o : D9} {K : C -> Prop} : a8E E fr rs o K = a8E E fr rs o K := rfl
@[congr] theorem evF1_congr {o : D9} {K : C -> Prop} : a4Z fr rs o K = a4Z fr rs o K := rfl
@[congr] theorem ev1d_congr {t : DT} {o : D9} {K : DS -> Prop} (h : x = x') : a5O E hid t o x K = a5O E hid t o x' K := by rw [h]
@[congr] theorem evD_congr {ts : List DT} {l : List D9} {K : St -> Prop} (h : x = x') : evD E hid ts l x K = evD E hid ts l x' K := by rw [h]
@[congr] theorem binP_congr {op : BinOp} {x y x' y' : Value} {K : C -> Prop} (h : x = x') (h' : y = y') (hp : p = p') : a7l op x y p K = a7l op x' y' p' K := by rw [h, h', hp]
@[congr] theorem pickP_congr {c c' : Bool} {x y x' y' : C} {K : C -> Prop} (hp : p = p') (h0 : c = c') (h : x = x') (h' : y = y') : a6D p c x y K = a6D p' c' x' y' K := by rw [h0, h, h', hp]
@[congr] theorem loadP_congr {g : Bool} {n : Nat} {s s' : C} {K : C -> Prop} (h' : s = s') : l7 rs g n s K = l7 rs g n s' K := by rw [h']
@[congr] theorem loadJ_congr {g : Bool} {n : Nat} {s s' : C} {K : C -> Prop} (hp : p = p') (h' : s = s') : a7E rs g n p s K = a7E rs g n p' s' K := by rw [hp, h']
@[congr] theorem loadCs_congr {g : Bool} {n : Nat} {s s' : List C} {K : C -> Prop} (h' : s = s') : a3T g n s K = a3T g n s' K := by rw [h']
@[congr] theorem srcOf_congr {n : Nat} {s s' : C} {k : Option Nat} {K : List (List C) -> Prop} (h' : s = s') : a3o rs n s k K = a3o rs n s' k K := by rw [h']
@[congr] theorem CallOK_congr {f : Nat} {l l' : List C} {K : C -> List Res -> List Nat -> Prop} (h' : l = l') : l9 E rs f l K = l9 E rs f l' K := by rw [h']
@[congr] theorem CallQ_congr {f : Nat} {l l' : List C} {K : C -> Prop} (h' : l = l') : a0K E rs p f l K = a0K E rs p f l' K := by rw [h']
@[congr] theorem retP_congr {l : List RV} {K : List C -> Prop} : p8 fr rs l K = p8 fr rs l K := rfl
@[congr] theorem eqC_congr {ks : List LK} {cs ds cs' ds' : List C} {K : Bool -> Prop} (h : cs = cs') (h' : ds = ds') : eqC ks cs ds K = eqC ks cs' ds' K := by rw [h, h']
@[congr] theorem S_congr {Q : Exit -> Act -> World -> Prop} {k : List It} (h : st = st') : S E Q st k = S E Q st' k := by rw [h]
end
theorem S.c0J {E : Ctx} {Q : Exit -> Act -> World -> Prop} {st : St} {k : List It} {tags : List DT} {ops : List D9} (h : evD E [] tags ops ⟨st.fr, st.rs, [], [], []⟩ fun st' => S E Q st' k) : S E Q st (.code (.U6 tags ops) :: k) := S.U6 [] True.intro h
theorem b1Y {p : Prop} : (true = true -> p) = p := by simp
theorem b1I {p : Prop} : (false = true -> p) = True := by simp
theorem b1V {p : Prop} : (false = false -> p) = p := by simp
theorem b2a {p : Prop} : (true = false -> p) = True := by simp
theorem wrap_i64 {n : Int} (h : -9223372036854775808 <= n /\ n <= 9223372036854775807) : IntKind.i64.wrap n = n := by
 have h1 : IntKind.i64.wrap n = (if n % 18446744073709551616 >= 9223372036854775808 then n % 18446744073709551616 - 18446744073709551616 else n % 18446744073709551616) := by
  simp [IntKind.wrap, IntKind.signed, IntKind.bits]
 rw [h1]
 split <;> omega
theorem wrap_u64 {n : Int} (h : 0 <= n /\ n <= 18446744073709551615) : IntKind.u64.wrap n = n := by
 have h1 : IntKind.u64.wrap n = n % 18446744073709551616 := by
  simp [IntKind.wrap, IntKind.signed, IntKind.bits]
 rw [h1]
 omega
theorem wrap_u8 {n : Int} (h : 0 <= n /\ n <= 255) : IntKind.u8.wrap n = n := by
 have h1 : IntKind.u8.wrap n = n % 256 := by
  simp [IntKind.wrap, IntKind.signed, IntKind.bits]
 rw [h1]
 omega
theorem wrap_u32 {n : Int} (h : 0 <= n /\ n <= 4294967295) : IntKind.u32.wrap n = n := by
 have h1 : IntKind.u32.wrap n = n % 4294967296 := by simp [IntKind.wrap, IntKind.signed, IntKind.bits]
 rw [h1]
 omega
theorem b4d (z : Value) (o : Option Value) : b0I false z o = .v (o.getD z) := by cases o <;> rfl
theorem c0t {α β : Type} (f : α -> β) (l : List α) (i : Nat) : (l.map f).take i = (l.take i).map f := List.map_take.symm
theorem b9z {α β : Type} (f : α -> β) (l : List α) (i : Nat) : (l.map f).drop i = (l.drop i).map f := List.map_drop.symm
theorem b5P (z : Value) (o : Option Value) : b0I true z o = .tup [.v (o.getD z), .v (.bool o.isSome)] := by cases o <;> rfl
theorem c0M (n : Nat) : (no_index (OfNat.ofNat n) : Int).toNat = n := rfl
theorem ww : (∀ n : Int, -9223372036854775808 <= n /\ n <= 9223372036854775807 -> IntKind.i64.wrap n = n) /\ (∀ n : Int, 0 <= n /\ n <= 18446744073709551615 -> IntKind.u64.wrap n = n) /\ (∀ n : Int, 0 <= n /\ n <= 255 -> IntKind.u8.wrap n = n) /\ (∀ n : Int, 0 <= n /\ n <= 4294967295 -> IntKind.u32.wrap n = n) :=
 ⟨fun _ => wrap_i64, fun _ => wrap_u64, fun _ => wrap_u8, fun _ => wrap_u32⟩
class Sg (g : Prop) (p : outParam Prop) : Prop where
 go : p -> g
theorem uA {g p : Prop} [h : Sg g p] (x : p) : g := h.go x
class Sb (g : Prop) (p : outParam Prop) : Prop where
 go : p -> g
theorem uI {g p : Prop} [h : Sb g p] (x : p) : g := h.go x
instance {g p : Prop} [h : Sb g p] : Sg g p := ⟨h.go⟩
class Sc (g : Prop) (a b : outParam Prop) : Prop where
 go : a -> b -> g
instance {a b : Prop} : Sc (a /\ b) a b := ⟨And.intro⟩
theorem uK {g a b : Prop} [h : Sc g a b] (x : a) (y : b) : g := h.go x y
class By (g : Prop) (E : outParam Ctx) (rs : outParam (List Res)) (p : outParam Bool) (f : outParam Nat) (a : outParam (List C)) (r : C) (q : outParam Prop) : Prop where
 go : P6 E rs p f a r -> q -> g
section
variable {E : Ctx} {Q : Exit -> Act -> World -> Prop} {st : St} {k : List It} {rs : List Res} {f : Nat} {a a' : List C} {r : C} {p : Bool} {ok : Prop} {d : Option Nat}
instance : Sb (S E Q st (.code .skip :: k)) (S E Q st k) := ⟨S.skip⟩
instance {x y : IC} : Sb (S E Q st (.code (.seq x y) :: k)) (S E Q st (.code x :: .code y :: k)) := ⟨S.seq⟩
instance {x : IC} {i : Nat} : Sb (S E Q st (.code (.block i x) :: k)) (S E Q st (.code x :: .blk i :: k)) := ⟨S.block⟩
instance {i : Nat} : Sb (S E Q st (.blk i :: k)) (S E Q st k) := ⟨S.blk⟩
instance {l : List D9} : Sb (S E Q st (.code (.reg l) :: k)) (ev E l st fun s => S E Q s k) := ⟨S.reg⟩
instance {x y z : Prop} : Sb ((x /\ y) /\ z) (x /\ y /\ z) := ⟨fun h => and_assoc.2 h⟩
instance {z : Prop} : Sb (True /\ z) z := ⟨fun h => ⟨trivial, h⟩⟩
instance {z : Prop} {cs : List C} : Sb (leC cs cs /\ z) z := ⟨fun h => ⟨Y5 _, h⟩⟩
instance {x z : Prop} : Sb ((x -> x) /\ z) z := ⟨fun h => ⟨id, h⟩⟩
class Nq (i j : Nat) : Prop where
 ne : i ≠ j
class Bq (x y : Bool) : Prop where
 e : x = y
instance {x : Bool} : Bq x x := ⟨rfl⟩
instance {i j : Nat} [h : Bq (Nat.beq i j) false] : Nq i j := ⟨Nat.ne_of_beq_eq_false h.e⟩
class Pt (i : Nat) (k : List It) (k' : outParam (List It)) : Prop where
 e : a1Z i k = some k'
instance {i : Nat} : Pt i (.blk i :: k) k := ⟨by simp [a1Z]⟩
instance {i : Nat} {x : IC} {k' : List It} [h : Pt i k k'] : Pt i (.code x :: k) k' := ⟨h.e⟩
instance {i : Nat} {J : Act -> World -> Prop} {k' : List It} [h : Pt i k k'] : Pt i (.inv J :: k) k' := ⟨h.e⟩
instance (priority := low) {i j : Nat} {k' : List It} [n : Nq i j] [h : Pt i k k'] : Pt i (.blk j :: k) k' := ⟨by simp [a1Z, n.ne, h.e]⟩
instance {i : Nat} {k' : List It} [h : Pt i k k'] : Sb (S E Q st (.code (.exit i) :: k)) (S E Q st k') := ⟨S.exit h.e⟩
instance {K : St -> Prop} : Sb (a0s E st false f a ok d K) (KU st d K) := ⟨fun h => .inl ⟨rfl, h⟩⟩
instance {K : St -> Prop} : Sb (a0s E st true f a ok d K) (ok /\ l9 E st.rs f a (KE E st d K)) := ⟨fun h => .inr ⟨h.1, .inl ⟨rfl, h.2⟩⟩⟩
instance {l : List DT} {o : List D9} : Sg (S E Q st (.code (.U6 l o) :: k)) (evD E [] l o ⟨st.fr, st.rs, [], [], []⟩ fun s => S E Q s k) := ⟨S.c0J⟩
instance {K : C -> List Res -> List Nat -> Prop} : By (l9 E rs f a K) E rs true f a r (K r rs []) := ⟨fun h hk => l9.quiet h hk⟩
instance {K : C -> Prop} : By (a0K E rs p f a K) E rs p f a r (K r) := ⟨fun h hk => a0K.mk h hk⟩
instance {K : St -> Prop} : By (a0s E st p f a ok d K) E st.rs p f a r (ok /\ KPg st p d K r) := ⟨fun h hk => a0s.quiet hk.1 h hk.2⟩
variable {g q : Prop}
theorem uB {P : Program} (hs : u6 P f a' r) [h : By g E rs p f a r q] (e : (E.P, a, (C.bdL rs.length a && C.clL a)) = (P, a', true)) (x : q) : g := by
 injection e with e1 e2
 injection e2 with e2 e3
 rw [c1J] at e3
 subst e1 e2
 exact h.go (P6.spec (fun _ => hs) (fun _ => j5.refl e3.1) (fun _ => e3.2)) x
theorem uC {P : Program} (hs : u6 P f a' r) [h : By g E rs p f a r q] (e : (E.P, C.clL a', r.flat) = (P, true, true)) (hi : j5 rs [] a a') (x : q) : g := by
 injection e with e1 e2
 injection e2 with e2 e3
 subst e1
 exact h.go (P6.view (fun _ => hs) (fun _ => hi) (fun _ => e2) e3) x
class Dc (b : Bool) (y n : outParam Prop) : Prop where
 y : b = true -> y
 n : b = false -> n
instance (priority := low) {b : Bool} : Dc b (b = true) (b = false) := ⟨id, id⟩
instance {x : Prop} [Decidable x] : Dc (decide x) x (¬x) := ⟨of_decide_eq_true, of_decide_eq_false⟩
instance {b : Bool} {x y : Prop} [h : Dc b x y] : Dc (!b) y x := ⟨fun e => h.n (by simpa using e), fun e => h.y (by simpa using e)⟩
instance {b c : Bool} {x y z w : Prop} [h : Dc b x y] [i : Dc c z w] : Dc (b && c) (x /\ z) (y \/ w) := ⟨fun e => by rw [c1J] at e; exact ⟨h.y e.1, i.y e.2⟩, fun e => by rw [Bool.and_eq_false_iff] at e; exact e.imp h.n i.n⟩
instance {b c : Bool} {x y z w : Prop} [h : Dc b x y] [i : Dc c z w] : Dc (b || c) (x \/ z) (y /\ w) := ⟨fun e => by rw [c1X] at e; exact e.imp h.y i.y, fun e => by rw [c1L] at e; exact ⟨h.n e.1, i.n e.2⟩⟩
theorem uJ {c : Operand} {x y : IC} {b : Bool} {u v : Prop} (hb : opv st.fr c = .v (.bool b)) [h : Dc b u v] (ht : u -> S E Q st (.code x :: k)) (hf : v -> S E Q st (.code y :: k)) : S E Q st (.code (.cond c x y) :: k) := S.cond hb (fun e => ht (h.y e)) fun e => hf (h.n e)
instance (priority := low) {x p z : Prop} [h : Sb x p] : Sb (x /\ z) (p /\ z) := ⟨fun e => ⟨h.go e.1, e.2⟩⟩
instance {x : St} {fr' : List (Nat × C)} {rs' : List Res} : Sb (Ent E x ⟨fr', rs'⟩) (a0o x.rs rs' x.fr fr' /\ L9 x.rs rs' rs' x.rs /\ E.nu0.length <= rs'.length) := ⟨fun h => Ent.mk _ _ h.1 h.2.1 h.2.2⟩
section
variable {rs' l l' : List Res} {fr fr' : List (Nat × C)} {c c' : C} {u u' : Res} {e sz : Nat} {es es' : List (List C)} {cs cs' : List C} {ms ms' : List (Value × Value)} {b : Bool}
instance : Sb (a0o rs rs' fr []) True := ⟨fun _ => a0o.nil⟩
instance {t : Nat} : Sb (a0o rs rs' fr ((t, c) :: fr')) (Imp rs rs' (slot fr t) c /\ a0o rs rs' fr fr') := ⟨fun h => a0o.cons h.1 h.2⟩
instance : Sb (Imp rs rs' c .junk) True := ⟨fun _ => Imp.junk⟩
instance (priority := low) : Sb (Imp rs rs' c c') (c = c' /\ c'.bd rs'.length = true) := ⟨fun h => Imp.eq h.1 h.2⟩
instance : Sb (L9 rs rs' [] l) True := ⟨fun _ => L9.nil⟩
instance : Sb (L9 rs rs' (u' :: l') (u :: l)) (RI rs rs' u u' /\ L9 rs rs' l' l) := ⟨fun h => L9.cons h.1 h.2⟩
instance : Sb (RI rs rs' u .gone) True := ⟨fun _ => .gone _⟩
instance : Sb (RI rs rs' (.row e sz es) (.row e sz es')) (es = es') := ⟨fun h => .row _ _ _ _ h⟩
instance : Sb (RI rs rs' (.map b ms) (.map b ms')) (ms = ms') := ⟨fun h => .map _ _ _ h⟩
instance : Sb (RI rs rs' (.box e cs) (.box e cs')) (cs = cs' /\ C.bdL rs'.length cs' = true) := ⟨fun h => .box _ _ _ (j5.eq h.1 h.2)⟩
end
theorem uF {P : Program} (hs : u6 P f a' r) {K : St -> Prop} (x : ok /\ KPg st false d K r) : a0s E st false f a ok d K :=
 .inr ⟨x.1, .inr (.inr ⟨r, (fun h => absurd h (by decide)), x.2⟩)⟩
end
attribute [go_sem] c0M b9D b8v b8e b7h KE KP KPg KU KR KRD KQd KFd KLd KEd a7C a8G KgP a3N Nat.zero_le ev1 evU evG evE evQ a8E a4Z a5O E8 b4d b5P a7l a6D l7 a7E a3T opv slot strip req reqs a0L a2a a0Q splice a0J cellsS a1M a2t
 C.one C.ones C.nj opsV njL a3f F3 a1v rmP a0A a1J C.y7 C.has C.a5Z C.a1c Res.y7 M8 a3o b3q y8 a8H IOp.uses eqC M4 L6 a1j a7p Y3 a0U a0T P5 a0X C.cl C.clL Value.oneCell'
 Option.getD_none cond_true cond_false Bool.and_true Bool.true_and Bool.and_false Bool.false_and Bool.or_true Bool.or_false Bool.true_or Bool.false_or Bool.not_true Bool.not_false List.getElem?_cons_zero List.getElem?_cons_succ List.getElem?_nil false_imp_iff Nat.min_eq_left Nat.min_eq_right c1R c2d c1T List.length_nil List.cons_append List.nil_append List.append_nil
 List.take_succ_cons List.take_zero List.drop_succ_cons List.drop_zero List.take_nil List.drop_nil List.set_cons_zero List.set_cons_succ List.mem_cons List.not_mem_nil or_false b1Y b1I b1V b2a Option.toList_some Option.toList_none List.replicate_succ List.replicate_zero c1C Nat.sub_zero c0t b9z true_and and_true implies_true imp_self true_imp_iff beq_true beq_false Bool.cond_false_right Bool.cond_true_left c1y c2n c1z Option.map_none c1B
def a6r (Pw : World -> Prop) : Prop := ∀ w w' : World, w.heap.size <= w'.heap.size -> (∀ b, b < w.heap.size -> w'.heap[b]? = w.heap[b]?) -> Pw w -> Pw w'
def W9 (P : Program) (Pw : World -> Prop) (f : Nat) (args : List C) (r : C) : Prop := ∀ (O : Nat -> Prop) (w : World) (vs : List Value), Pw w -> (∀ b, O b -> b < w.heap.size) -> FzL w O args vs ->
 Calls P f vs.toArray w fun e w' => ∃ y, e = .returned y /\ Below w.heap.size w w' /\ Fz w' O r y
theorem u6.w {P : Program} {Pw : World -> Prop} {f : Nat} {args : List C} {r : C} (h : u6 P f args r) : W9 P Pw f args r := fun O w vs _ hO hA => h O w vs hO hA
theorem W9.mono {P : Program} {Pw Pw' : World -> Prop} {f : Nat} {args : List C} {r : C} (h : W9 P Pw f args r) (hp : ∀ w, Pw' w -> Pw w) : W9 P Pw' f args r := fun O w vs hw hO hA => h O w vs (hp w hw) hO hA
theorem W9.of {eff : Nat -> Bool} {P : Program} {Pw : World -> Prop} {f : Nat} {fn : Func} {ir : a1U} (hf : P.funcs[f]? = some fn) (hc : a0r eff P fn = some ir) {args : List C} {r : C} (hn : args.length <= ir.ntmps)
  (h : ∀ w O, Pw w -> S ⟨P, eff, ir.ntmps, w, fun _ => False, O, [], []⟩ (Fin P ir.results (Out ⟨P, eff, ir.ntmps, w, fun _ => False, O, [], []⟩ r)) ⟨j6 0 args, []⟩ [.code ir.body]) : W9 P Pw f args r := by
 intro O w vs hw hO hargs
 exact enter hf hc O hO args hargs hn (h w O hw)
theorem a6r.cell {ad : Addr} {Q : Value -> Prop} : a6r fun w => ∃ v, w.cell? ad = some v /\ Q v := by
 rintro w w' hs hb ⟨v, hv, hq⟩
 refine ⟨v, ?_, hq⟩
 rw [<- hv]
 exact World.cell?_of_block (hb _ (block_lt_of_cell hv))
theorem a6r.and {A B : World -> Prop} (ha : a6r A) (hb : a6r B) : a6r fun w => A w /\ B w := fun w w' h1 h2 h => ⟨ha w w' h1 h2 h.1, hb w w' h1 h2 h.2⟩
end Go.Proofs.YtogfpjohjphngaaGreatDoor.Eng
namespace Go.Proofs.YtogfpjohjphngaaGreatDoor.Nm
def val (l : List UInt8) : Nat := l.foldl (fun n b => 256 * n + b.toNat) 0
theorem a4h : ∀ (l : List UInt8) (n : Nat), l.foldl (fun n b => 256 * n + b.toNat) n = n * 256 ^ l.length + val l
 | [], n => by simp [val]
 | b :: l, n => by
  have h1 := a4h l (256 * n + b.toNat)
  have h2 := a4h l (256 * 0 + b.toNat)
  simp only [List.foldl_cons, val, c1T, c2i] at h1 h2 ⊢
  rw [h1, h2]
  grind
theorem a8K : val [] = 0 := rfl
theorem X9 (b : UInt8) (l : List UInt8) : val (b :: l) = b.toNat * 256 ^ l.length + val l := by
 have := a4h l (256 * 0 + b.toNat)
 simp only [val, List.foldl_cons] at this ⊢
 rw [this]
 simp
theorem b2z (a b : List UInt8) : val (a ++ b) = val a * 256 ^ b.length + val b := by
 unfold val
 rw [List.foldl_append, a4h]
 rfl
theorem b0H (a : List UInt8) (b : UInt8) : val (a ++ [b]) = 256 * val a + b.toNat := by
 rw [b2z, X9]; simp [a8K]; omega
theorem Y4 : ∀ (l : List UInt8), val l < 256 ^ l.length
 | [] => by simp [val]
 | b :: l => by
  have h := Y4 l
  have hb := b.toNat_lt
  rw [X9, c1T, c2i]
  have : b.toNat * 256 ^ l.length <= 255 * 256 ^ l.length := c2h _ (by omega)
  omega
def trim : List UInt8 -> List UInt8
 | [] => []
 | b :: l => if b = 0 then trim l else b :: l
theorem O3 : ∀ l, val (trim l) = val l
 | [] => rfl
 | b :: l => by
  unfold trim
  split
  ·rename_i h; subst h; rw [O3 l, X9]; simp
  ·rfl
theorem V5 : ∀ l, (trim l).length <= l.length
 | [] => c1I _
 | b :: l => by
  unfold trim
  split
  ·have := V5 l; simp; omega
  ·exact c1I _
def canon (l : List UInt8) : Prop := ∀ r, l ≠ 0 :: r
theorem U2 : ∀ l, canon (trim l)
 | [], r => by simp [trim]
 | b :: l, r => by
  unfold trim
  split
  ·exact U2 l r
  ·intro e; injection e; contradiction
theorem a7L {l : List UInt8} (h : canon l) : trim l = l := by
 cases l with
 | nil => rfl
 | cons b l =>
  unfold trim
  rw [if_neg]
  intro e
  exact h l (by rw [e])
theorem a6c (l : List UInt8) : trim (trim l) = trim l := a7L (U2 l)
theorem a5Y : canon [] := fun r h => by cases h
theorem a7I {b : UInt8} {l : List UInt8} (h : canon (b :: l)) : 256 ^ l.length <= val (b :: l) := by
 have hb : 1 <= b.toNat := by
  rcases c1Y b.toNat with h0 | h0
  ·exact absurd (by rw [show b = 0 from UInt8.toNat.inj h0]) (h l)
  ·exact h0
 rw [X9]
 have := c2h (256 ^ l.length) hb
 omega
theorem val_zero {l : List UInt8} (h : canon l) : val l = 0 <-> l = [] := by
 cases l with
 | nil => simp [val]
 | cons b l =>
  have := a7I h
  have := Nat.pow_pos (n := l.length) (show 0 < 256 by decide)
  simp; omega
theorem a7d : ∀ {a b : List UInt8}, a.length = b.length -> val a = val b -> a = b
 | [], [], _, _ => rfl
 | [], _ :: _, h, _ => by cases h
 | _ :: _, [], h, _ => by cases h
 | x :: a, y :: b, h, hv => by
  simp only [c1T, Nat.add_right_cancel_iff] at h
  rw [X9, X9, h] at hv
  have h1 := Y4 a
  have h2 := Y4 b
  rw [h] at h1
  have hp := Nat.pow_pos (n := b.length) (show 0 < 256 by decide)
  have e1 : (x.toNat * 256 ^ b.length + val a) / 256 ^ b.length = x.toNat := by
   rw [Nat.mul_comm, Nat.mul_add_div hp, Nat.div_eq_of_lt h1]; rfl
  have e2 : (y.toNat * 256 ^ b.length + val b) / 256 ^ b.length = y.toNat := by
   rw [Nat.mul_comm, Nat.mul_add_div hp, Nat.div_eq_of_lt h2]; rfl
  rw [hv, e2] at e1
  have hxy : x = y := UInt8.toNat.inj e1.symm
  subst hxy
  rw [a7d h (by omega)]
theorem a2e {a b : List UInt8} (hb : canon b) (h : a.length < b.length) : val a < val b := by
 cases b with
 | nil => simp at h
 | cons y b =>
  have h1 := a7I hb
  have h2 := Y4 a
  have h3 : 256 ^ a.length <= 256 ^ b.length := c2c (by decide) (by simp at h; omega)
  omega
theorem b4z {a b : List UInt8} (ha : canon a) (hb : canon b) (h : val a = val b) : a = b := by
 refine a7d ?_ h
 rcases Nat.lt_trichotomy a.length b.length with h1 | h1 | h1
 ·have := a2e hb h1; omega
 ·exact h1
 ·have := a2e ha h1; omega
def enc (n : Nat) : List UInt8 := if n = 0 then [] else enc (n / 256) ++ [UInt8.ofNat (n % 256)]
termination_by n
decreasing_by omega
theorem a1e : enc 0 = [] := by unfold enc; rfl
theorem J2 (n : Nat) : val (enc n) = n := by
 induction n using Nat.strongRecOn with
 | _ n ih =>
  unfold enc
  split
  ·rename_i h; subst h; rfl
  ·rw [b0H, ih _ (by omega)]
   have : (UInt8.ofNat (n % 256)).toNat = n % 256 := by simp
   rw [this]; omega
theorem a4J {n : Nat} (h : n ≠ 0) : enc n ≠ [] := fun e => h (by rw [<- J2 n, e]; rfl)
theorem a2T (n : Nat) : canon (enc n) := by
 induction n using Nat.strongRecOn with
 | _ n ih =>
  unfold enc
  split
  ·exact a5Y
  ·rename_i hn
   intro r hr
   by_cases h0 : n / 256 = 0
   ·rw [h0, a1e, List.nil_append] at hr
    injection hr with h1 _
    have h2 := congrArg UInt8.toNat h1
    simp at h2
    omega
   ·have h1 := ih (n / 256) (by omega)
    cases he : enc (n / 256) with
    | nil => exact a4J h0 he
    | cons b l =>
     rw [he] at hr h1
     injection hr with h2 _
     exact h1 l (by rw [h2])
theorem a6w (l : List UInt8) : enc (val l) = trim l := b4z (a2T _) (U2 l) (by rw [J2, O3])
theorem a1a {l : List UInt8} (h : canon l) : enc (val l) = l := by rw [a6w, a7L h]
theorem a8v {a b : Nat} (h : enc a = enc b) : a = b := by rw [<- J2 a, h, J2]
theorem F4 {n k : Nat} (h : n < 256 ^ k) : (enc n).length <= k := by
 rcases c1V k (enc n).length with h1 | h1
 ·cases he : enc n with
  | nil => rw [he] at h1; simp at h1
  | cons b l =>
   have h2 := a7I (he ▸ a2T n)
   rw [<- he, J2] at h2
   rw [he] at h1
   have : 256 ^ k <= 256 ^ l.length := c2c (by decide) (by simp at h1; omega)
   omega
 ·exact h1
theorem Y9 {n k : Nat} (h : (enc n).length <= k) : n < 256 ^ k := by
 have h1 := Y4 (enc n)
 rw [J2] at h1
 have : 256 ^ (enc n).length <= 256 ^ k := c2c (by decide) h
 omega
theorem a0c {l : List UInt8} {k : Nat} (h : l.length <= k) : val l < 256 ^ k := by
 have := Y4 l
 have : 256 ^ l.length <= 256 ^ k := c2c (by decide) h
 omega
def wv (B : Nat) : List Nat -> Nat
 | [] => 0
 | w :: r => w + B * wv B r
theorem a6h (B : Nat) : ∀ (a b : List Nat), wv B (a ++ b) = wv B a + B ^ a.length * wv B b
 | [], b => by simp [wv]
 | x :: a, b => by
  simp only [List.cons_append, wv, a6h B a b, c1T, c2i]
  grind
theorem a6H (B : Nat) (a : List Nat) (x : Nat) : wv B (a ++ [x]) = wv B a + B ^ a.length * x := by
 rw [a6h]; simp [wv]
theorem A9 (B : Nat) {l : List Nat} {i : Nat} (h : i < l.length) : wv B (l.take (i + 1)) = wv B (l.take i) + B ^ i * l[i] := by
 rw [c2o h, a6H, c1M]
 rw [Nat.min_eq_left (by omega)]
theorem a2n (B : Nat) (l : List Nat) (i : Nat) (h : i <= l.length) : wv B l = wv B (l.take i) + B ^ i * wv B (l.drop i) := by
 have := a6h B (l.take i) (l.drop i)
 rw [List.take_append_drop, c1M, Nat.min_eq_left h] at this
 exact this
theorem a3K (B : Nat) : ∀ {l : List Nat} {i : Nat} (h : i < l.length) (v : Nat), wv B (l.set i v) + B ^ i * l[i] = wv B l + B ^ i * v
 | [], i, h, v => by simp at h
 | x :: l, 0, h, v => by simp [wv]; omega
 | x :: l, i + 1, h, v => by
  have := a3K B (l := l) (i := i) (by simpa using h) v
  simp only [List.set_cons_succ, wv, List.getElem_cons_succ, c2i]
  grind
theorem J5 (B : Nat) : ∀ {l : List Nat}, (∀ w ∈ l, w < B) -> wv B l < B ^ l.length
 | [], _ => by simp [wv]
 | x :: l, h => by
  have h1 := J5 B (l := l) fun w hw => h w (by simp [hw])
  have h2 := h x (by simp)
  simp only [wv, c1T, c2i]
  have h3 : B * (wv B l + 1) <= B * B ^ l.length := Nat.mul_le_mul_left _ h1
  rw [Nat.mul_add, Nat.mul_one] at h3
  rw [Nat.mul_comm (B ^ l.length) B]
  omega
theorem a5y (B : Nat) : ∀ n, wv B (List.replicate n 0) = 0
 | 0 => rfl
 | n + 1 => by simp [List.replicate_succ, wv, a5y B n]
theorem b0J {B : Nat} {l : List Nat} {x : Nat} (hx : x ≠ 0) : B ^ l.length <= wv B (l ++ [x]) := by
 rw [a6H]
 have : B ^ l.length * 1 <= B ^ l.length * x := Nat.mul_le_mul_left _ (by omega)
 omega
theorem mem_set {α : Type} {l : List α} {i : Nat} {v x : α} (h : x ∈ l.set i v) : x = v \/ x ∈ l := by
 rcases List.mem_or_eq_of_mem_set h with h | h
 ·exact .inr h
 ·exact .inl h
def dig (B : Nat) : Nat -> Nat -> List Nat
 | 0, _ => []
 | L + 1, n => n % B :: dig B L (n / B)
theorem H6 (B : Nat) : ∀ L n, (dig B L n).length = L
 | 0, _ => rfl
 | L + 1, n => by simp [dig, H6 B L]
theorem a0P {B : Nat} (hB : 0 < B) : ∀ L n, ∀ w ∈ dig B L n, w < B
 | 0, _, w, h => by simp [dig] at h
 | L + 1, n, w, h => by
  simp only [dig, List.mem_cons] at h
  rcases h with rfl | h
  ·exact Nat.mod_lt _ hB
  ·exact a0P hB L _ w h
theorem b4l (B : Nat) : ∀ L n, wv B (dig B L n) = n % B ^ L
 | 0, n => by simp [dig, wv, Nat.mod_one]
 | L + 1, n => by
  simp only [dig, wv, b4l B L]
  rw [c2i, Nat.mul_comm (B ^ L) B, Nat.mod_mul]
theorem U3 {B L n : Nat} (h : n < B ^ L) : wv B (dig B L n) = n := by rw [b4l, Nat.mod_eq_of_lt h]
theorem b5i {B : Nat} (hB : 0 < B) : ∀ {l : List Nat}, (∀ w ∈ l, w < B) -> l = dig B l.length (wv B l)
 | [], _ => rfl
 | x :: l, h => by
  have hx := h x (by simp)
  have ih := b5i hB (l := l) fun w hw => h w (by simp [hw])
  simp only [c1T, dig, wv]
  rw [Nat.add_mul_mod_self_left, Nat.mod_eq_of_lt hx, Nat.add_mul_div_left _ _ hB, Nat.div_eq_of_lt hx, c2e, <- ih]
theorem U8 {B L n : Nat} {l : List Nat} (hB : 0 < B) (h : ∀ w ∈ l, w < B) (hl : l.length = L) (hn : wv B l = n) : l = dig B L n := by
 have := b5i hB h
 rw [hl, hn] at this
 exact this
theorem a5D {l : List UInt8} {i : Nat} (h : i < l.length) : val (l.drop (l.length - 1 - i)) = (l[l.length - 1 - i]).toNat * 256 ^ i + val (l.drop (l.length - i)) := by
 have h1 : l.drop (l.length - 1 - i) = l[l.length - 1 - i] :: l.drop (l.length - i) := by
  rw [List.drop_eq_getElem_cons (by omega)]
  congr 2; omega
 rw [h1, X9, c2l]
 congr 2; congr 1; omega
def a3G (l : List UInt8) (i : Nat) (out : List Nat) : Prop :=
 out.length = (l.length + 3) / 4 /\ (∀ w ∈ out, w < 4294967296) /\ wv 4294967296 out = val (l.drop (l.length - i)) /\ ∀ j (h : j < out.length), out[j] < 256 ^ (i - 4 * j)
theorem a9F (l : List UInt8) : a3G l 0 (List.replicate ((l.length + 3) / 4) 0) := by
 refine ⟨by simp, fun w hw => by rw [c2a hw]; decide, ?_, fun j h => by simp⟩
 rw [a5y]; simp [val]
theorem b5t (i : Nat) : 4294967296 ^ (i / 4) * 256 ^ (i % 4) = 256 ^ i := by
 have h : (4294967296 : Nat) = 256 ^ 4 := by decide
 rw [h, <- Nat.pow_mul, <- Nat.pow_add]
 congr 1; omega
theorem a2y {a b r : Nat} (h : a < 2 ^ r) : a ||| (b * 2 ^ r) = a + b * 2 ^ r := by
 have := Nat.two_pow_add_eq_or_of_lt h b
 rw [Nat.mul_comm b, Nat.add_comm a, this, Nat.or_comm]
theorem a9K {l : List UInt8} {i : Nat} {out : List Nat} (h : a3G l i out) (hi : i < l.length) (hj : i / 4 < out.length) :
  a3G l (i + 1) (out.set (i / 4) (out[i / 4] ||| (l[l.length - 1 - i]).toNat * 2 ^ (8 * (i % 4)))) /\ out[i / 4] ||| (l[l.length - 1 - i]).toNat * 2 ^ (8 * (i % 4)) < 4294967296 /\ (l[l.length - 1 - i]).toNat * 2 ^ (8 * (i % 4)) < 4294967296 := by
 obtain ⟨h1, h2, h3, h4⟩ := h
 have e256 : 2 ^ (8 * (i % 4)) = 256 ^ (i % 4) := by rw [Nat.pow_mul]
 have hb := (l[l.length - 1 - i]).toNat_lt
 have hlow := h4 (i / 4) hj
 rw [show i - 4 * (i / 4) = i % 4 by omega] at hlow
 have hor : out[i / 4] ||| (l[l.length - 1 - i]).toNat * 2 ^ (8 * (i % 4)) = out[i / 4] + (l[l.length - 1 - i]).toNat * 256 ^ (i % 4) := by
  rw [a2y (by rw [e256]; exact hlow), e256]
 rw [hor, e256]
 have hpos := Nat.pow_pos (n := i % 4) (show 0 < 256 by decide)
 have hmul : (l[l.length - 1 - i]).toNat * 256 ^ (i % 4) <= 255 * 256 ^ (i % 4) := c2h _ (by omega)
 have hnew : out[i / 4] + (l[l.length - 1 - i]).toNat * 256 ^ (i % 4) < 256 ^ (i % 4 + 1) := by rw [c2i]; omega
 have h4p : (256 : Nat) ^ (i % 4 + 1) <= 256 ^ 4 := c2c (by decide) (by omega)
 have h44 : (256 : Nat) ^ 4 = 4294967296 := by decide
 refine ⟨⟨by simp [h1], fun w hw => ?_, ?_, fun j hjl => ?_⟩, by omega, by omega⟩
 ·rcases mem_set hw with rfl | hw
  ·omega
  ·exact h2 w hw
 ·have hs := a3K 4294967296 hj (out[i / 4] + (l[l.length - 1 - i]).toNat * 256 ^ (i % 4))
  rw [Nat.mul_add, <- c2f, Nat.mul_right_comm, c2f, Nat.mul_comm (l[l.length - 1 - i]).toNat, Nat.mul_comm _ (l[l.length - 1 - i]).toNat] at hs
  rw [show l.length - (i + 1) = l.length - 1 - i by omega, a5D hi, <- h3, <- b5t i]
  have : 4294967296 ^ (i / 4) * ((l[l.length - 1 - i]).toNat * 256 ^ (i % 4)) = (l[l.length - 1 - i]).toNat * (4294967296 ^ (i / 4) * 256 ^ (i % 4)) := by grind
  have hs' := a3K 4294967296 hj (out[i / 4] + (l[l.length - 1 - i]).toNat * 256 ^ (i % 4))
  rw [Nat.mul_add] at hs'
  omega
 ·rw [List.getElem_set]
  split
  ·rename_i e; subst e
   rw [show i + 1 - 4 * (i / 4) = i % 4 + 1 by omega]; exact hnew
  ·have h5 := h4 j (by simpa using hjl)
   have : (256 : Nat) ^ (i - 4 * j) <= 256 ^ (i + 1 - 4 * j) := c2c (by decide) (by omega)
   omega
def H9 (l : List UInt8) : List Nat := dig 4294967296 (((trim l).length + 3) / 4) (val l)
theorem b1c {l : List UInt8} {out : List Nat} (h : a3G (trim l) (trim l).length out) : out = H9 l := by
 obtain ⟨h1, h2, h3, _⟩ := h
 refine U8 (by decide) h2 h1 ?_
 rw [h3, Nat.sub_self, List.drop_zero, O3]
theorem b2c (l : List UInt8) : val l < 4294967296 ^ (((trim l).length + 3) / 4) := by
 have h := Y4 (trim l)
 rw [O3] at h
 have h4 : (4294967296 : Nat) = 256 ^ 4 := by decide
 rw [h4, <- Nat.pow_mul]
 have : 256 ^ (trim l).length <= 256 ^ (4 * (((trim l).length + 3) / 4)) := c2c (by decide) (by omega)
 omega
theorem R9 (l : List UInt8) : (H9 l).length = ((trim l).length + 3) / 4 := H6 _ _ _
theorem a0g (l : List UInt8) : wv 4294967296 (H9 l) = val l := U3 (b2c l)
theorem a0e (l : List UInt8) : ∀ w ∈ H9 l, w < 4294967296 := a0P (by decide) _ _
theorem a6b (l : List UInt8) (h : H9 l ≠ []) : 4294967296 ^ ((H9 l).length - 1) <= val l := by
 have hl := R9 l
 have hc := U2 l
 have hv := O3 l
 cases ht : trim l with
 | nil => rw [ht] at hl; exact absurd (c1Z (by simpa using hl)) h
 | cons b r =>
  rw [ht] at hc hl hv
  have := a7I hc
  have h4 : (4294967296 : Nat) = 256 ^ 4 := by decide
  rw [h4, <- Nat.pow_mul]
  have : 256 ^ (4 * ((H9 l).length - 1)) <= 256 ^ r.length := c2c (by decide) (by simp at hl; omega)
  omega
theorem a9u {α : Type} (x0 x1 x2 x3 : α) : ∀ (k : Nat) (b : List α), k + 3 < b.length -> ((((b.set k x0).set (k + 1) x1).set (k + 2) x2).set (k + 3) x3).drop k = x0 :: x1 :: x2 :: x3 :: b.drop (k + 4)
 | 0, b, h => by
  match b, h with
  | _ :: _ :: _ :: _ :: r, _ => simp
 | k + 1, [], h => by simp at h
 | k + 1, a :: b, h => by
  have := a9u x0 x1 x2 x3 k b (by simp at h; omega)
  simpa using this
def a4B (l : List Nat) (i : Nat) (b : List UInt8) : Prop := b.length = 4 * l.length /\ val (b.drop (4 * (l.length - i))) = wv 4294967296 (l.take i)
theorem b0W (l : List Nat) : a4B l 0 (List.replicate (4 * l.length) 0) := by
 refine ⟨by simp, ?_⟩
 rw [List.drop_of_length_le (by simp)]; rfl
theorem b0x {l : List Nat} {i : Nat} {b : List UInt8} (h : a4B l i b) (hi : i < l.length) (hw : l[i] < 4294967296) {x0 x1 x2 x3 : UInt8}
  (h0 : x0.toNat = l[i] / 16777216 % 256) (h1 : x1.toNat = l[i] / 65536 % 256) (h2 : x2.toNat = l[i] / 256 % 256) (h3 : x3.toNat = l[i] % 256) :
  a4B l (i + 1) ((((b.set (4 * (l.length - 1 - i)) x0).set (4 * (l.length - 1 - i) + 1) x1).set (4 * (l.length - 1 - i) + 2) x2).set (4 * (l.length - 1 - i) + 3) x3) := by
 obtain ⟨e1, e2⟩ := h
 refine ⟨by simp [e1], ?_⟩
 rw [show 4 * (l.length - (i + 1)) = 4 * (l.length - 1 - i) by omega, a9u _ _ _ _ _ _ (by omega), show 4 * (l.length - 1 - i) + 4 = 4 * (l.length - i) by omega, A9 _ hi, <- e2]
 have hl : (b.drop (4 * (l.length - i))).length = 4 * i := by rw [c2l]; omega
 simp only [X9, c1T, hl]
 have h4 : (4294967296 : Nat) = 256 ^ 4 := by decide
 rw [h4, <- Nat.pow_mul]
 have e : l[i] = x0.toNat * 16777216 + x1.toNat * 65536 + x2.toNat * 256 + x3.toNat := by rw [h0, h1, h2, h3]; omega
 rw [e]
 generalize x0.toNat = a0
 generalize x1.toNat = a1
 generalize x2.toNat = a2
 generalize x3.toNat = a3
 have p1 : (256 : Nat) ^ (4 * i + 1 + 1 + 1) = 16777216 * 256 ^ (4 * i) := by rw [c2i, c2i, c2i]; omega
 have p2 : (256 : Nat) ^ (4 * i + 1 + 1) = 65536 * 256 ^ (4 * i) := by rw [c2i, c2i]; omega
 have p3 : (256 : Nat) ^ (4 * i + 1) = 256 * 256 ^ (4 * i) := by rw [c2i]; omega
 rw [p1, p2, p3]
 grind
theorem b1K {l : List Nat} {b : List UInt8} (h : a4B l l.length b) : trim b = enc (wv 4294967296 l) := by
 obtain ⟨_, h⟩ := h
 rw [Nat.sub_self, Nat.mul_zero, List.drop_zero, c1U] at h
 rw [<- h, a6w]
def oB (n : Nat) : UInt8 := UInt8.ofNat (n % 256)
theorem a1u (n : Nat) : (oB n).toNat = n % 256 := by simp [oB]
def be8 (n : Nat) : List UInt8 := [oB (n / 72057594037927936), oB (n / 281474976710656), oB (n / 1099511627776), oB (n / 4294967296), oB (n / 16777216), oB (n / 65536), oB (n / 256), oB n]
theorem b2I {n : Nat} (h : n < 18446744073709551616) : val (be8 n) = n := by
 simp only [be8, val, List.foldl_cons, List.foldl_nil, a1u]
 omega
theorem b0j {n : Nat} (h : n < 18446744073709551616) : trim (be8 n) = enc n := by rw [<- a6w, b2I h]
theorem b3R (v b : Nat) (hb : b < 256) : (v % 18446744073709551616 * 256) % 18446744073709551616 ||| b = (256 * v + b) % 18446744073709551616 := by
 have h1 : (v % 18446744073709551616 * 256) % 18446744073709551616 = (v % 72057594037927936) * 2 ^ 8 := by omega
 rw [h1, Nat.mul_comm _ (2 ^ 8), <- Nat.two_pow_add_eq_or_of_lt (by simpa using hb)]
 omega
theorem N7 (B : Nat) {l : List Nat} {i : Nat} (h : i < l.length) (v : Nat) : wv B ((l.set i v).take (i + 1)) = wv B (l.take i) + B ^ i * v := by
 rw [A9 B (by simpa using h), List.getElem_set_self, List.take_set_of_le (c1I _)]
theorem a1X (B : Nat) (l : List Nat) (i : Nat) : wv B (l.take (i + 1)) = wv B (l.take i) + B ^ i * l.getD i 0 := by
 rcases c1V i l.length with h | h
 ·rw [A9 B h, c1O, c1x h]; rfl
 ·rw [c1W (by omega), c1W h, c1O, c2k h]; simp
def a2R (x y : List Nat) (i : Nat) (out : List Nat) (c : Nat) : Prop :=
 out.length = x.length + 1 /\ (∀ w ∈ out, w < 4294967296) /\ c <= 1 /\ wv 4294967296 (out.take i) + 4294967296 ^ i * c = wv 4294967296 (x.take i) + wv 4294967296 (y.take i)
theorem a6X (x y : List Nat) : a2R x y 0 (List.replicate (x.length + 1) 0) 0 := by
 refine ⟨by simp, fun w hw => by rw [c2a hw]; decide, by omega, by simp [wv]⟩
theorem b2o {x y : List Nat} {i : Nat} {out : List Nat} {c : Nat} (h : a2R x y i out c) (hi : i < x.length) (hx : x[i] < 4294967296) (hy : y.getD i 0 < 4294967296) {s : Nat} (hs : s = c + x[i] + y.getD i 0) :
  a2R x y (i + 1) (out.set i (s % 4294967296)) (s / 4294967296) := by
 obtain ⟨h1, h2, h3, h4⟩ := h
 refine ⟨by simp [h1], fun w hw => ?_, by omega, ?_⟩
 ·rcases mem_set hw with rfl | hw
  ·exact Nat.mod_lt _ (by decide)
  ·exact h2 w hw
 ·rw [N7 _ (by omega), A9 _ hi, a1X]
  have hd : s = s % 4294967296 + 4294967296 * (s / 4294967296) := by omega
  have e : 4294967296 ^ i * s = 4294967296 ^ i * c + 4294967296 ^ i * x[i] + 4294967296 ^ i * y.getD i 0 := by rw [hs, Nat.mul_add, Nat.mul_add]
  have e2 : 4294967296 ^ i * s = 4294967296 ^ i * (s % 4294967296) + 4294967296 ^ (i + 1) * (s / 4294967296) := by
   conv => lhs; rw [hd, Nat.mul_add, <- c2f, <- c2i]
  omega
theorem a7x {x y : List Nat} {out : List Nat} {c : Nat} (h : a2R x y x.length out c) (hl : y.length <= x.length) : wv 4294967296 (out.set x.length c) = wv 4294967296 x + wv 4294967296 y /\ ∀ w ∈ out.set x.length c, w < 4294967296 := by
 obtain ⟨h1, h2, h3, h4⟩ := h
 refine ⟨?_, fun w hw => ?_⟩
 ·have := N7 4294967296 (l := out) (i := x.length) (by omega) c
  rw [c1W (by simp [h1])] at this
  rw [c1U, c1W hl] at h4
  omega
 ·rcases mem_set hw with rfl | hw
  ·omega
  ·exact h2 w hw
def a6k (x y : List Nat) (i : Nat) (out : List Nat) (c : Nat) : Prop :=
 out.length = x.length /\ (∀ w ∈ out, w < 4294967296) /\ c <= 1 /\ out.drop i = x.drop i /\ wv 4294967296 (out.take i) + wv 4294967296 (y.take i) + 4294967296 ^ i * 0 = wv 4294967296 (x.take i) + 4294967296 ^ i * c
theorem b2i {x : List Nat} (y : List Nat) (hx : ∀ w ∈ x, w < 4294967296) : a6k x y 0 x 0 := by
 refine ⟨rfl, hx, by omega, rfl, by simp [wv]⟩
theorem a0l {α : Type} {a b : List α} {i : Nat} (h : a.drop i = b.drop i) : a[i]? = b[i]? := by
 have := congrArg (fun l => l[0]?) h
 simpa using this
theorem Z4 {α : Type} {a b : List α} {i : Nat} (v : α) (h : a.drop i = b.drop i) : (a.set i v).drop (i + 1) = b.drop (i + 1) := by
 rw [List.drop_set_of_lt (by omega)]
 have := congrArg (List.drop 1) h
 simpa [List.drop_drop] using this
theorem b2k {x y : List Nat} {i : Nat} {out : List Nat} {c : Nat} (h : a6k x y i out c) (hi : i < x.length) {t c' : Nat} (ht : t < 4294967296) (hc : c' <= 1) (hs : t + c + y.getD i 0 = x[i] + 4294967296 * c') :
  a6k x y (i + 1) (out.set i t) c' := by
 obtain ⟨h1, h2, h3, hd, h4⟩ := h
 refine ⟨by simp [h1], fun w hw => ?_, hc, Z4 _ hd, ?_⟩
 ·rcases mem_set hw with rfl | hw
  ·exact ht
  ·exact h2 w hw
 ·rw [N7 _ (by omega), A9 _ hi, a1X]
  have e := congrArg (4294967296 ^ i * ·) hs
  simp only [Nat.mul_add] at e
  rw [<- c2f, <- c2i] at e
  simp only [Nat.succ_eq_add_one] at e
  omega
theorem b3E {x y : List Nat} {out : List Nat} {c : Nat} (h : a6k x y x.length out c) (hl : y.length <= x.length) (hle : wv 4294967296 y <= wv 4294967296 x) : c = 0 /\ wv 4294967296 out + wv 4294967296 y = wv 4294967296 x := by
 obtain ⟨h1, h2, h3, _, h4⟩ := h
 rw [c1U, c1W (by omega), c1W hl] at h4
 have := J5 4294967296 h2
 rw [h1] at this
 have hc : c = 0 := by
  rcases c1Y c with h0 | h0
  ·exact h0
  ·have : c = 1 := by omega
   subst this
   omega
 subst hc
 exact ⟨rfl, by omega⟩
def a6j (x y : List Nat) (i : Nat) (out : List Nat) : Prop :=
 out.length = x.length + y.length /\ (∀ w ∈ out, w < 4294967296) /\ wv 4294967296 out = wv 4294967296 (x.take i) * wv 4294967296 y /\ ∀ j, i + y.length <= j -> out.getD j 0 = 0
def a8l (x y : List Nat) (i k : Nat) (out : List Nat) (c : Nat) : Prop :=
 out.length = x.length + y.length /\ (∀ w ∈ out, w < 4294967296) /\ c < 4294967296 /\ wv 4294967296 out + 4294967296 ^ (i + k) * c = wv 4294967296 (x.take i) * wv 4294967296 y + 4294967296 ^ i * (x.getD i 0 * wv 4294967296 (y.take k)) /\ ∀ j, i + y.length <= j -> out.getD j 0 = 0
theorem b1L (x y : List Nat) : a6j x y 0 (List.replicate (x.length + y.length) 0) := by
 refine ⟨by simp, fun w hw => by rw [c2a hw]; decide, by rw [a5y]; simp [wv], fun j _ => ?_⟩
 rw [c1O, List.getElem?_replicate]; split <;> rfl
theorem b3D {x y : List Nat} {i : Nat} {out : List Nat} (h : a6j x y i out) : a8l x y i 0 out 0 := by
 obtain ⟨h1, h2, h3, h4⟩ := h
 exact ⟨h1, h2, by decide, by rw [h3]; simp [wv], h4⟩
theorem getD_set_ne {l : List Nat} {i j v : Nat} (h : i ≠ j) : (l.set i v).getD j 0 = l.getD j 0 := by
 simp [c1O, List.getElem?_set_ne h]
theorem b3F {x y : List Nat} {i k : Nat} {out : List Nat} {c : Nat} (h : a8l x y i k out c) (hi : i < x.length) (hk : k < y.length) (hx : x[i] < 4294967296) (hy : y[k] < 4294967296) {s : Nat} (ho : i + k < out.length) (hs : s = c + x[i] * y[k] + out[i + k]) :
  a8l x y i (k + 1) (out.set (i + k) (s % 4294967296)) (s / 4294967296) /\ s <= 18446744073709551615 := by
 obtain ⟨h1, h2, h3, h4, h5⟩ := h
 have hm : x[i] * y[k] <= 4294967295 * 4294967295 := Nat.mul_le_mul (by omega) (by omega)
 have hok := h2 _ (c1N ho)
 have hsb : s <= 18446744073709551615 := by omega
 refine ⟨⟨by simp [h1], fun w hw => ?_, by omega, ?_, fun j hj => ?_⟩, hsb⟩
 ·rcases mem_set hw with rfl | hw
  ·exact Nat.mod_lt _ (by decide)
  ·exact h2 w hw
 ·have e0 := a3K 4294967296 ho (s % 4294967296)
  rw [A9 _ hk]
  have hd : s = s % 4294967296 + 4294967296 * (s / 4294967296) := by omega
  have e2 : 4294967296 ^ (i + k) * s = 4294967296 ^ (i + k) * (s % 4294967296) + 4294967296 ^ (i + (k + 1)) * (s / 4294967296) := by
   conv => lhs; rw [hd, Nat.mul_add, <- c2f, <- c2i]
   rfl
  have e3 : 4294967296 ^ (i + k) * s = 4294967296 ^ (i + k) * c + 4294967296 ^ (i + k) * (x[i] * y[k]) + 4294967296 ^ (i + k) * out[i + k] := by rw [hs, Nat.mul_add, Nat.mul_add]
  have e4 : x.getD i 0 = x[i] := by rw [c1O, c1x hi]; rfl
  rw [e4] at h4 ⊢
  have e5 : 4294967296 ^ i * (x[i] * (wv 4294967296 (y.take k) + 4294967296 ^ k * y[k])) = 4294967296 ^ i * (x[i] * wv 4294967296 (y.take k)) + 4294967296 ^ (i + k) * (x[i] * y[k]) := by
   rw [Nat.pow_add, Nat.mul_add, Nat.mul_add]
   congr 1
   generalize 4294967296 ^ i = p
   generalize 4294967296 ^ k = q
   grind
  omega
 ·rw [getD_set_ne (by omega)]; exact h5 j hj
theorem b5B {x y : List Nat} {i : Nat} {out : List Nat} {c : Nat} (h : a8l x y i y.length out c) (hi : i < x.length) : a6j x y (i + 1) (out.set (i + y.length) c) := by
 obtain ⟨h1, h2, h3, h4, h5⟩ := h
 have ho : i + y.length < out.length := by omega
 refine ⟨by simp [h1], fun w hw => ?_, ?_, fun j hj => ?_⟩
 ·rcases mem_set hw with rfl | hw
  ·exact h3
  ·exact h2 w hw
 ·have e0 := a3K 4294967296 ho c
  have e1 := h5 _ (c1I (i + y.length))
  rw [c1O, c1x ho] at e1
  simp only [Option.getD_some] at e1
  rw [e1, Nat.mul_zero, Nat.add_zero] at e0
  rw [e0, h4, c1U, a1X]
  grind
 ·rw [getD_set_ne (by omega)]; exact h5 j (by omega)
theorem b3U {x y : List Nat} {out : List Nat} (h : a6j x y x.length out) : wv 4294967296 out = wv 4294967296 x * wv 4294967296 y := by
 obtain ⟨_, _, h, _⟩ := h
 rw [c1U] at h
 exact h
section
variable {W V p v1 v2 lo2 top u2 wl d rest : Nat}
theorem b9v (hV : v1 * p <= V) (hW : W < (top + 1) * p) (h1 : 0 < v1) : W / V <= top / v1 := by
 rw [Nat.le_div_iff_mul_le h1]
 rcases c1V top (W / V * v1) with h | h
 ·exfalso
  have h2 : (top + 1) * p <= W / V * v1 * p := c2h p h
  have h3 : W / V * (v1 * p) <= W / V * V := Nat.mul_le_mul_left _ hV
  have h4 : W / V * V <= W := Nat.div_mul_le_self W V
  rw [<- c2f] at h3
  omega
 ·exact h
theorem b8U {B : Nat} (hV : (v1 * B + v2) * p <= V) (hW : W < (top * B + u2 + 1) * p) (ht : top = d * v1 + rest) (hd : rest * B + u2 < d * v2) : W / V < d := by
 have h1 : top * B + u2 + 1 <= d * (v1 * B + v2) := by
  rw [ht, Nat.add_mul, Nat.mul_add, c2f]; omega
 have h2 : (top * B + u2 + 1) * p <= d * (v1 * B + v2) * p := c2h p h1
 have h3 : d * ((v1 * B + v2) * p) <= d * V := Nat.mul_le_mul_left _ hV
 rw [<- c2f] at h3
 have h4 : W < d * V := by omega
 rcases c1Y V with h0 | h0
 ·subst h0; simp at h4
 ·rwa [Nat.div_lt_iff_lt_mul h0]
theorem c0n {B : Nat} (hV : V < (v1 * B + v2 + 1) * p) (hW : (top * B + u2) * p <= W) (ht : top = d * v1 + rest) (hd : d * v2 <= rest * B + u2) (hB : d < B) (h1 : 0 < v1) : (d - 1) * V <= W := by
 rcases c1Y d with h0 | h0
 ·subst h0; simp
 obtain ⟨e, rfl⟩ : ∃ e, d = e + 1 := ⟨d - 1, by omega⟩
 simp only [Nat.add_sub_cancel]
 have hB1 : B <= v1 * B := by have := c2h B h1; omega
 have h2 : (e + 1) * (v1 * B + v2) <= top * B + u2 := by
  have a1 := Nat.mul_add (e + 1) (v1 * B) v2
  have a2 := Nat.add_mul ((e + 1) * v1) rest B
  have a3 := c2f (e + 1) v1 B
  rw [ht]; omega
 have h3 : e * (v1 * B + v2 + 1) <= top * B + u2 := by
  have : (e + 1) * (v1 * B + v2) = e * (v1 * B + v2) + (v1 * B + v2) := by rw [Nat.add_mul, Nat.one_mul]
  have : e * (v1 * B + v2 + 1) = e * (v1 * B + v2) + e := by rw [Nat.mul_add _ _ 1, Nat.mul_one]
  omega
 have h4 : e * V <= e * ((v1 * B + v2 + 1) * p) := Nat.mul_le_mul_left _ (by omega)
 have h5 : e * (v1 * B + v2 + 1) * p <= (top * B + u2) * p := c2h p h3
 rw [<- c2f] at h4
 omega
end
theorem b6i {W V d : Nat} (h1 : W / V <= d) (h2 : (d - 1) * V <= W) (hV : 0 < V) : (d * V <= W /\ W / V = d) \/ (W < d * V /\ 0 < d /\ W / V = d - 1) := by
 rcases c1V W (d * V) with h | h
 ·refine .inr ⟨h, ?_, ?_⟩
  ·rcases c1Y d with h0 | h0
   ·subst h0; simp at h
   ·exact h0
  ·have : W / V < d := by rwa [Nat.div_lt_iff_lt_mul hV]
   have : d - 1 <= W / V := by rwa [Nat.le_div_iff_mul_le hV]
   omega
 ·refine .inl ⟨h, ?_⟩
  have : d <= W / V := by rwa [Nat.le_div_iff_mul_le hV]
  omega
def leftInv (x : List Nat) (p i : Nat) (out : List Nat) : Prop :=
 out.length = x.length + 1 /\ (∀ w ∈ out, w < 4294967296) /\ out.getD i 0 < p /\ wv 4294967296 (out.take i) + 4294967296 ^ i * out.getD i 0 = wv 4294967296 (x.take i) * p
theorem getD_lt {l : List Nat} {i : Nat} (h : i < l.length) : l.getD i 0 = l[i] := by rw [c1O, c1x h]; rfl
theorem b0w (x : List Nat) {p : Nat} (hp : 0 < p) : leftInv x p 0 (List.replicate (x.length + 1) 0) := by
 refine ⟨by simp, fun w hw => by rw [c2a hw]; decide, ?_, by simp [wv]⟩
 rw [getD_lt (by simp)]; simp; omega
theorem a5K {l : List Nat} {i v u : Nat} (h : i + 1 < l.length) : ((l.set i v).set (i + 1) u).getD (i + 1) 0 = u := by
 rw [getD_lt (by simp; omega)]; simp
theorem b1C {x : List Nat} {r i : Nat} {out : List Nat} (h : leftInv x (2 ^ r) i out) (hr : r < 32) (hi : i < x.length) (hx : x[i] < 4294967296) (ho : i < out.length) :
  leftInv x (2 ^ r) (i + 1) ((out.set i (out[i] ||| (x[i] * 2 ^ r % 4294967296))).set (i + 1) (x[i] * 2 ^ r / 4294967296)) /\ x[i] * 2 ^ r < 18446744073709551616 /\ out[i] ||| (x[i] * 2 ^ r % 4294967296) < 4294967296 /\ x[i] * 2 ^ r / 4294967296 < 4294967296 := by
 obtain ⟨h1, h2, h3, h4⟩ := h
 rw [getD_lt ho] at h3 h4
 have hp : (2 : Nat) ^ r <= 2 ^ 31 := c2c (by decide) (by omega)
 have hp0 : 0 < (2 : Nat) ^ r := Nat.pow_pos (by decide)
 have hmul : x[i] * 2 ^ r <= 4294967295 * 2147483648 := Nat.mul_le_mul (by omega) hp
 have e32 : (4294967296 : Nat) = 2 ^ (32 - r) * 2 ^ r := by rw [<- Nat.pow_add, show 32 - r + r = 32 by omega]
 have hmod : x[i] * 2 ^ r % 4294967296 = (x[i] % 2 ^ (32 - r)) * 2 ^ r := by rw [e32, Nat.mul_mod_mul_right]
 have hor : out[i] ||| (x[i] * 2 ^ r % 4294967296) = out[i] + x[i] * 2 ^ r % 4294967296 := by rw [hmod, a2y h3]
 have hq : x[i] % 2 ^ (32 - r) + 1 <= 2 ^ (32 - r) := Nat.mod_lt _ (Nat.pow_pos (by decide))
 have hq2 : (x[i] % 2 ^ (32 - r) + 1) * 2 ^ r <= 4294967296 := by
  have := c2h (2 ^ r) hq
  rw [<- e32] at this; exact this
 have hsum : out[i] + x[i] * 2 ^ r % 4294967296 < 4294967296 := by rw [hmod]; rw [Nat.add_mul, Nat.one_mul] at hq2; omega
 have hdiv : x[i] * 2 ^ r / 4294967296 < 2 ^ r := by
  rw [Nat.div_lt_iff_lt_mul (by decide), Nat.mul_comm]
  exact Nat.mul_lt_mul_of_pos_left hx hp0
 rw [hor]
 refine ⟨⟨by simp [h1], fun w hw => ?_, ?_, ?_⟩, by omega, hsum, by omega⟩
 ·rcases mem_set hw with rfl | hw
  ·omega
  ·rcases mem_set hw with rfl | hw
   ·exact hsum
   ·exact h2 w hw
 ·rw [a5K (by omega)]; exact hdiv
 ·rw [a5K (by omega), List.take_set_of_le (c1I _), N7 _ ho, A9 _ hi, Nat.add_mul, <- h4, c2f, c2i]
  have hd : x[i] * 2 ^ r = x[i] * 2 ^ r % 4294967296 + 4294967296 * (x[i] * 2 ^ r / 4294967296) := by omega
  have e1 := congrArg (4294967296 ^ i * ·) hd
  simp only [Nat.mul_add] at e1
  rw [e1, Nat.mul_add, c2f]
  omega
theorem b2p {x : List Nat} {p : Nat} {out : List Nat} (h : leftInv x p x.length out) : wv 4294967296 out = wv 4294967296 x * p /\ out.getD x.length 0 < p := by
 obtain ⟨h1, h2, h3, h4⟩ := h
 refine ⟨?_, h3⟩
 have ho : x.length < out.length := by omega
 have := A9 4294967296 ho
 rw [c1W (by omega), <- getD_lt ho] at this
 rw [c1U] at h4
 omega
def a3I (r0 : List Nat) (p i : Nat) (out : List Nat) : Prop :=
 out.length = r0.length /\ (∀ w ∈ out, w < 4294967296) /\ out.drop i = r0.drop i /\ wv 4294967296 (out.take i) * p + r0.getD 0 0 % p = wv 4294967296 (r0.take i) + 4294967296 ^ i * (r0.getD i 0 % p)
theorem a9I {r0 : List Nat} {p : Nat} (h : ∀ w ∈ r0, w < 4294967296) : a3I r0 p 0 r0 := ⟨rfl, h, rfl, by simp [wv]⟩
theorem a9M {r0 : List Nat} {by' i : Nat} {out : List Nat} (h : a3I r0 (2 ^ by') i out) (hb : by' < 32) (hi : i < r0.length) (h0 : ∀ w ∈ r0, w < 4294967296) {t : Nat}
  (ht : t = if i + 1 < r0.length then r0[i] / 2 ^ by' ||| (r0.getD (i + 1) 0 * 2 ^ (32 - by') % 4294967296) else r0[i] / 2 ^ by') : a3I r0 (2 ^ by') (i + 1) (out.set i t) /\ t < 4294967296 := by
 obtain ⟨h1, h2, h3, h4⟩ := h
 have hp0 : 0 < (2 : Nat) ^ by' := Nat.pow_pos (by decide)
 have hx := h0 _ (c1N hi)
 have e32 : (4294967296 : Nat) = 2 ^ by' * 2 ^ (32 - by') := by rw [<- Nat.pow_add, show by' + (32 - by') = 32 by omega]
 have hd : r0[i] / 2 ^ by' < 2 ^ (32 - by') := by
  rw [Nat.div_lt_iff_lt_mul hp0, Nat.mul_comm, <- e32]; exact hx
 have ht' : t = r0[i] / 2 ^ by' + (r0.getD (i + 1) 0 % 2 ^ by') * 2 ^ (32 - by') := by
  rw [ht]
  split
  ·rename_i hlt
   have hmod : r0.getD (i + 1) 0 * 2 ^ (32 - by') % 4294967296 = (r0.getD (i + 1) 0 % 2 ^ by') * 2 ^ (32 - by') := by
    conv => lhs; rw [e32, Nat.mul_mod_mul_right]
   rw [hmod, a2y hd]
  ·rename_i hge
   have : r0.getD (i + 1) 0 = 0 := by rw [c1O, c2k (by omega)]; rfl
   rw [this]; simp
 have hm1 : r0.getD (i + 1) 0 % 2 ^ by' + 1 <= 2 ^ by' := Nat.mod_lt _ hp0
 have hm2 : (r0.getD (i + 1) 0 % 2 ^ by' + 1) * 2 ^ (32 - by') <= 4294967296 := by
  have := c2h (2 ^ (32 - by')) hm1
  rw [<- e32] at this; exact this
 have hlt : t < 4294967296 := by rw [ht']; rw [Nat.add_mul, Nat.one_mul] at hm2; omega
 refine ⟨⟨by simp [h1], fun w hw => ?_, Z4 _ h3, ?_⟩, hlt⟩
 ·rcases mem_set hw with rfl | hw
  ·exact hlt
  ·exact h2 w hw
 ·rw [N7 _ (by omega), A9 _ hi]
  rw [getD_lt hi] at h4
  have e1 : t * 2 ^ by' = r0[i] / 2 ^ by' * 2 ^ by' + (r0.getD (i + 1) 0 % 2 ^ by') * 4294967296 := by
   rw [ht', Nat.add_mul, c2f (r0.getD (i + 1) 0 % 2 ^ by'), Nat.mul_comm (2 ^ (32 - by')), <- e32]
  have e2 : r0[i] = r0[i] / 2 ^ by' * 2 ^ by' + r0[i] % 2 ^ by' := by
   have := Nat.div_add_mod r0[i] (2 ^ by')
   rw [Nat.mul_comm] at this; omega
  rw [Nat.add_mul, c2f, e1, c2i]
  generalize r0[i] / 2 ^ by' * 2 ^ by' = a at *
  generalize r0[i] % 2 ^ by' = b at *
  rw [e2]
  generalize r0.getD (i + 1) 0 % 2 ^ by' = c at *
  grind
theorem b1B {r0 : List Nat} {by' : Nat} {out : List Nat} (h : a3I r0 (2 ^ by') r0.length out) (hb : by' <= 32) {z : Nat} (hz : wv 4294967296 r0 = z * 2 ^ by') : wv 4294967296 out = z := by
 obtain ⟨h1, h2, _, h4⟩ := h
 have hp0 : 0 < (2 : Nat) ^ by' := Nat.pow_pos (by decide)
 rw [c1W (by omega), c1U, hz] at h4
 have e0 : r0.getD r0.length 0 = 0 := by rw [c1O, c2k (c1I _)]; rfl
 rw [e0, Nat.zero_mod, Nat.mul_zero, Nat.add_zero] at h4
 have hm : r0.getD 0 0 % 2 ^ by' = 0 := by
  cases hr : r0 with
  | nil => simp
  | cons a l =>
   rw [hr] at hz
   simp only [wv] at hz
   have e32 : (4294967296 : Nat) = 2 ^ by' * 2 ^ (32 - by') := by rw [<- Nat.pow_add, show by' + (32 - by') = 32 by omega]
   rw [e32, c2f] at hz
   have h5 : (a + 2 ^ by' * (2 ^ (32 - by') * wv (2 ^ by' * 2 ^ (32 - by')) l)) % 2 ^ by' = a % 2 ^ by' := Nat.add_mul_mod_self_left ..
   rw [hz, Nat.mul_mod_left] at h5
   exact h5.symm
 rw [hm, Nat.add_zero] at h4
 exact Nat.eq_of_mul_eq_mul_right hp0 h4
def a7S (u v : List Nat) (d i : Nat) (out : List Nat) (c b : Nat) : Prop :=
 out.length = u.length /\ (∀ w ∈ out, w < 4294967296) /\ c < 4294967296 /\ b <= 1 /\ out.drop i = u.drop i /\ wv 4294967296 (out.take i) + d * wv 4294967296 (v.take i) = wv 4294967296 (u.take i) + 4294967296 ^ i * c + 4294967296 ^ i * b
theorem b4i {u : List Nat} (v : List Nat) (d : Nat) (h : ∀ w ∈ u, w < 4294967296) : a7S u v d 0 u 0 0 := ⟨rfl, h, by decide, by decide, rfl, by simp [wv]⟩
theorem b3N {u v : List Nat} {d i : Nat} {out : List Nat} {c b : Nat} (h : a7S u v d i out c b) (hi : i < v.length) (hu : i < u.length) (hv : v[i] < 4294967296) (hd : d < 4294967296) {t b' : Nat} (ht : t < 4294967296) (hb : b' <= 1)
  (hs : t + (c + d * v[i]) % 4294967296 + b = u[i] + 4294967296 * b') : a7S u v d (i + 1) (out.set i t) ((c + d * v[i]) / 4294967296) b' /\ c + d * v[i] <= 18446744073709551615 := by
 obtain ⟨h1, h2, h3, hb0, h4, h5⟩ := h
 have hm : d * v[i] <= 4294967295 * 4294967295 := Nat.mul_le_mul (by omega) (by omega)
 refine ⟨⟨by simp [h1], fun w hw => ?_, by omega, hb, Z4 _ h4, ?_⟩, by omega⟩
 ·rcases mem_set hw with rfl | hw
  ·exact ht
  ·exact h2 w hw
 ·rw [N7 _ (by omega), A9 _ hi, A9 _ hu, c2i]
  have hdm : c + d * v[i] = (c + d * v[i]) % 4294967296 + 4294967296 * ((c + d * v[i]) / 4294967296) := by omega
  have e1 := congrArg (4294967296 ^ i * ·) hdm
  have e2 := congrArg (4294967296 ^ i * ·) hs
  generalize (c + d * v[i]) % 4294967296 = lo at *
  generalize (c + d * v[i]) / 4294967296 = hi' at *
  grind
theorem b5W {u v : List Nat} {d : Nat} {out : List Nat} {c b : Nat} (h : a7S u v d v.length out c b) (hl : u.length = v.length + 1) {t f : Nat} (ht : t < 4294967296) (hs : t + c + b = u[v.length] + 4294967296 * f) :
  wv 4294967296 (out.set v.length t) + d * wv 4294967296 v = wv 4294967296 u + 4294967296 ^ u.length * f /\ (∀ w ∈ out.set v.length t, w < 4294967296) := by
 obtain ⟨h1, h2, h3, hb0, h4, h5⟩ := h
 refine ⟨?_, fun w hw => ?_⟩
 ·have e0 := N7 4294967296 (l := out) (i := v.length) (by omega) t
  rw [c1W (by simp; omega)] at e0
  have e1 := A9 4294967296 (l := u) (i := v.length) (by omega)
  rw [c1W (by omega)] at e1
  rw [c1U] at h5
  have e2 := congrArg (4294967296 ^ v.length * ·) hs
  rw [hl, c2i, e0, e1]
  grind
 ·rcases mem_set hw with rfl | hw
  ·exact ht
  ·exact h2 w hw
def a7K (u v : List Nat) (i : Nat) (out : List Nat) (c : Nat) : Prop :=
 out.length = u.length /\ (∀ w ∈ out, w < 4294967296) /\ c <= 1 /\ out.drop i = u.drop i /\ wv 4294967296 (out.take i) + 4294967296 ^ i * c = wv 4294967296 (u.take i) + wv 4294967296 (v.take i)
theorem b3v {u : List Nat} (v : List Nat) (h : ∀ w ∈ u, w < 4294967296) : a7K u v 0 u 0 := ⟨rfl, h, by decide, rfl, by simp [wv]⟩
theorem b3Y {u v : List Nat} {i : Nat} {out : List Nat} {c : Nat} (h : a7K u v i out c) (hi : i < v.length) (hu : i < u.length) (hv : v[i] < 4294967296) (hx : u[i] < 4294967296) {s : Nat} (hs : s = c + u[i] + v[i]) :
  a7K u v (i + 1) (out.set i (s % 4294967296)) (s / 4294967296) := by
 obtain ⟨h1, h2, h3, h4, h5⟩ := h
 refine ⟨by simp [h1], fun w hw => ?_, by omega, Z4 _ h4, ?_⟩
 ·rcases mem_set hw with rfl | hw
  ·exact Nat.mod_lt _ (by decide)
  ·exact h2 w hw
 ·rw [N7 _ (by omega), A9 _ hi, A9 _ hu, c2i]
  have hdm : s = s % 4294967296 + 4294967296 * (s / 4294967296) := by omega
  have e1 := congrArg (4294967296 ^ i * ·) hdm
  have e2 := congrArg (4294967296 ^ i * ·) hs
  generalize s % 4294967296 = lo at *
  generalize s / 4294967296 = hi' at *
  grind
theorem b4D {u v : List Nat} {out : List Nat} {c : Nat} (h : a7K u v v.length out c) (hl : u.length = v.length + 1) {t : Nat} (ht : t = (u[v.length] + c) % 4294967296) {z : Nat} (hz : wv 4294967296 u + wv 4294967296 v = z + 4294967296 ^ u.length) (hzl : z < 4294967296 ^ u.length) :
  wv 4294967296 (out.set v.length t) = z /\ (∀ w ∈ out.set v.length t, w < 4294967296) := by
 obtain ⟨h1, h2, h3, h4, h5⟩ := h
 have hb : ∀ w ∈ out.set v.length t, w < 4294967296 := fun w hw => by
  rcases mem_set hw with rfl | hw
  ·rw [ht]; exact Nat.mod_lt _ (by decide)
  ·exact h2 w hw
 refine ⟨?_, hb⟩
 have hlt := J5 4294967296 hb
 rw [c2g, h1] at hlt
 have e0 := N7 4294967296 (l := out) (i := v.length) (by omega) t
 rw [c1W (by simp; omega)] at e0
 have e1 := A9 4294967296 (l := u) (i := v.length) (by omega)
 rw [c1W (by omega)] at e1
 rw [c1U] at h5
 have hdm : u[v.length] + c = t + 4294967296 * ((u[v.length] + c) / 4294967296) := by omega
 generalize (u[v.length] + c) / 4294967296 = f at *
 have e2 := congrArg (4294967296 ^ v.length * ·) hdm
 have key : wv 4294967296 (out.set v.length t) + 4294967296 ^ u.length * f = z + 4294967296 ^ u.length := by
  rw [<- hz, hl, c2i, e0, e1]
  grind
 have hf : f = 1 := by
  rcases Nat.lt_trichotomy f 1 with h0 | h0 | h0
  ·have : f = 0 := by omega
   subst this; omega
  ·exact h0
  ·have := Nat.mul_le_mul_left (4294967296 ^ u.length) h0
   omega
 subst hf
 omega
def F6 (l : List Nat) : Prop := ∀ w ∈ l, w < 4294967296
theorem F6.take {l : List Nat} (h : F6 l) (n : Nat) : F6 (l.take n) := fun w hw => h w (List.mem_of_mem_take hw)
theorem F6.drop {l : List Nat} (h : F6 l) (n : Nat) : F6 (l.drop n) := fun w hw => h w (List.mem_of_mem_drop hw)
theorem F6.app {a b : List Nat} (h : F6 a) (k : F6 b) : F6 (a ++ b) := fun w hw => by
 rcases List.mem_append.1 hw with hw | hw
 ·exact h w hw
 ·exact k w hw
theorem F6.set {a : List Nat} (h : F6 a) {i v : Nat} (k : v < 4294967296) : F6 (a.set i v) := fun w hw => by
 rcases mem_set hw with rfl | hw
 ·exact k
 ·exact h w hw
theorem b9d {l : List Nat} {m : Nat} (h : l.length = m + 2) (ha : F6 l) : ∃ r, r < 4294967296 ^ m /\ wv 4294967296 l = r + (l[m + 1] * 4294967296 + l[m]) * 4294967296 ^ m := by
 refine ⟨wv 4294967296 (l.take m), ?_, ?_⟩
 ·have := J5 4294967296 (ha.take m)
  rw [c1M, Nat.min_eq_left (by omega)] at this
  exact this
 ·have e1 := A9 4294967296 (l := l) (i := m + 1) (by omega)
  have e2 := A9 4294967296 (l := l) (i := m) (by omega)
  rw [c1W (by omega)] at e1
  rw [e1, e2, c2i]
  grind
theorem b7U {l : List Nat} {m : Nat} (h : l.length = m + 3) (ha : F6 l) : ∃ r, r < 4294967296 ^ m /\ wv 4294967296 l = r + ((l[m + 2] * 4294967296 + l[m + 1]) * 4294967296 + l[m]) * 4294967296 ^ m := by
 refine ⟨wv 4294967296 (l.take m), ?_, ?_⟩
 ·have := J5 4294967296 (ha.take m)
  rw [c1M, Nat.min_eq_left (by omega)] at this
  exact this
 ·have e0 := A9 4294967296 (l := l) (i := m + 2) (by omega)
  have e1 := A9 4294967296 (l := l) (i := m + 1) (by omega)
  have e2 := A9 4294967296 (l := l) (i := m) (by omega)
  rw [c1W (by omega)] at e0
  rw [e0, e1, e2, c2i, c2i]
  grind
structure Est (W V v1 v2 top u2 p : Nat) : Prop where
 ge : (v1 * 4294967296 + v2) * p <= V
 lt : V < (v1 * 4294967296 + v2 + 1) * p
 wlt : W < (top * 4294967296 + u2 + 1) * p
 wge : (top * 4294967296 + u2) * p <= W
 hv1 : 0 < v1
 hv2 : v2 < 4294967296
 hu2 : u2 < 4294967296
 hW : W < 4294967296 * V
theorem Est.of {v win : List Nat} {m : Nat} (hv : v.length = m + 2) (hw : win.length = m + 3) (hva : F6 v) (hwa : F6 win) (h1 : 0 < v[m + 1]) (hW : wv 4294967296 win < 4294967296 * wv 4294967296 v) :
  Est (wv 4294967296 win) (wv 4294967296 v) v[m + 1] v[m] (win[m + 2] * 4294967296 + win[m + 1]) win[m] (4294967296 ^ m) := by
 obtain ⟨r, hr, e1⟩ := b9d hv hva
 obtain ⟨s, hs, e2⟩ := b7U hw hwa
 refine ⟨by rw [e1]; omega, by rw [e1, Nat.add_mul _ 1, Nat.one_mul]; omega, by rw [e2, Nat.add_mul _ 1, Nat.one_mul]; omega, by rw [e2]; omega, h1, hva _ (c1N _), hwa _ (c1N _), hW⟩
theorem Est.pos {W V v1 v2 top u2 p : Nat} (h : Est W V v1 v2 top u2 p) : 0 < V := by
 have := h.hW
 rcases c1Y V with h0 | h0
 ·subst h0; omega
 ·exact h0
theorem Est.start {W V v1 v2 top u2 p : Nat} (h : Est W V v1 v2 top u2 p) : W / V <= top / v1 := by
 refine b9v (p := 4294967296 * p) ?_ ?_ h.hv1
 ·have := h.ge
  rw [Nat.add_mul, c2f] at this
  omega
 ·have h1 := h.wlt
  have h2 : (top * 4294967296 + u2 + 1) * p <= ((top + 1) * 4294967296) * p := c2h p (by have := h.hu2; omega)
  rw [c2f] at h2
  omega
theorem Est.dec {W V v1 v2 top u2 p d rest : Nat} (h : Est W V v1 v2 top u2 p) (hq : W / V <= d) (ht : top = d * v1 + rest) (hd : 4294967296 <= d \/ rest * 4294967296 + u2 < d * v2) : W / V < d := by
 rcases hd with hd | hd
 ·have : W / V < 4294967296 := by rw [Nat.div_lt_iff_lt_mul h.pos]; exact h.hW
  omega
 ·exact b8U h.ge h.wlt ht hd
theorem Est.fin {W V v1 v2 top u2 p d rest : Nat} (h : Est W V v1 v2 top u2 p) (hq : W / V <= d) (ht : top = d * v1 + rest) (hd : d < 4294967296) (hs : 4294967296 <= rest \/ d * v2 <= rest * 4294967296 + u2) : (d * V <= W /\ W / V = d) \/ (W < d * V /\ 0 < d /\ W / V = d - 1) := by
 refine b6i hq (c0n h.lt h.wge ht ?_ hd h.hv1) h.pos
 rcases hs with hs | hs
 ·have h1 : d * v2 <= 4294967296 * 4294967296 := Nat.mul_le_mul (by omega) (by have := h.hv2; omega)
  have h2 : 4294967296 * 4294967296 <= rest * 4294967296 := c2h _ hs
  omega
 ·exact hs
theorem Est.small {W V v1 v2 top u2 p d rest : Nat} (h : Est W V v1 v2 top u2 p) (ht : top = d * v1 + rest) (htop : top < v1 * 4294967296 + 4294967296) (hr : 4294967296 <= rest) : d < 4294967296 := by
 have hv := h.hv1
 have : d * v1 < 4294967296 * v1 := by rw [Nat.mul_comm 4294967296]; omega
 exact Nat.lt_of_mul_lt_mul_right this
def a5g (U0 : Nat) (v : List Nat) (L k : Nat) (u q : List Nat) : Prop :=
 u.length = L /\ F6 u /\ q.length = L - v.length /\ F6 q /\ wv 4294967296 u + 4294967296 ^ k * (wv 4294967296 v * wv 4294967296 (q.drop k)) = U0 /\ wv 4294967296 (u.drop k) < wv 4294967296 v
theorem a1Y (B : Nat) {l : List Nat} {k : Nat} (h : k < l.length) : wv B (l.drop k) = l[k] + B * wv B (l.drop (k + 1)) := by
 rw [List.drop_eq_getElem_cons h]; rfl
theorem a9x {U0 : Nat} {v : List Nat} {L k : Nat} {u q : List Nat} (h : a5g U0 v L (k + 1) u q) (hv : F6 v) (hk : k + 1 <= L - v.length) :
  wv 4294967296 ((u.drop k).take (v.length + 1)) = wv 4294967296 (u.drop k) /\ wv 4294967296 (u.drop k) < 4294967296 * wv 4294967296 v /\ wv 4294967296 (u.drop (k + v.length + 1)) = 0 /\ ((u.drop k).take (v.length + 1)).length = v.length + 1 := by
 obtain ⟨h1, h2, h3, h4, h5, h6⟩ := h
 have hku : k < u.length := by omega
 have hx := h2 _ (c1N hku)
 have e1 := a1Y 4294967296 hku
 have hlt : wv 4294967296 (u.drop k) < 4294967296 * wv 4294967296 v := by omega
 have hvl := J5 4294967296 hv
 have e2 := a2n 4294967296 (u.drop k) (v.length + 1) (by rw [c2l]; omega)
 rw [List.drop_drop] at e2
 have hz : wv 4294967296 (u.drop (k + v.length + 1)) = 0 := by
  rcases c1Y (wv 4294967296 (u.drop (k + v.length + 1))) with h0 | h0
  ·exact h0
  ·exfalso
   rw [show k + (v.length + 1) = k + v.length + 1 by omega] at e2
   have h7 := Nat.mul_le_mul_left (4294967296 ^ (v.length + 1)) h0
   have h8 : 4294967296 * wv 4294967296 v <= 4294967296 * 4294967296 ^ v.length := Nat.mul_le_mul_left _ (Nat.le_of_lt hvl)
   rw [c2i] at h7 e2
   omega
 refine ⟨?_, hlt, hz, by rw [c1M, c2l]; omega⟩
 rw [show k + (v.length + 1) = k + v.length + 1 by omega, hz, Nat.mul_zero, Nat.add_zero] at e2
 exact e2.symm
theorem b3A {U0 : Nat} {v : List Nat} {L k : Nat} {u q win : List Nat} (h : a5g U0 v L (k + 1) u q) (hv : F6 v) (hk : k + 1 <= L - v.length) (hwl : win.length = v.length + 1) (hwa : F6 win) {d : Nat} (hd : d = wv 4294967296 (u.drop k) / wv 4294967296 v)
    (hw : wv 4294967296 win + d * wv 4294967296 v = wv 4294967296 (u.drop k)) (hpos : 0 < wv 4294967296 v) : a5g U0 v L k (u.take k ++ win ++ u.drop (k + v.length + 1)) (q.set k d) := by
  obtain ⟨g1, g2, g3, g4⟩ := a9x h hv hk
  obtain ⟨h1, h2, h3, h4, h5, h6⟩ := h
  have hku : k < u.length := by omega
  have hd32 : d < 4294967296 := by rw [hd, Nat.div_lt_iff_lt_mul hpos]; exact g2
  have hkq : k < q.length := by omega
  have hl : (u.take k ++ win ++ u.drop (k + v.length + 1)).length = L := by
    simp only [c1C, c1M, c2l]; omega
  have htk : (u.take k).length = k := by rw [c1M]; omega
  have hdk : (u.take k ++ win ++ u.drop (k + v.length + 1)).drop k = win ++ u.drop (k + v.length + 1) := by
    rw [c2b, List.drop_append, htk, Nat.sub_self, List.drop_of_length_le (by omega), List.nil_append, List.drop_zero]
  have hwv : wv 4294967296 (win ++ u.drop (k + v.length + 1)) = wv 4294967296 win := by rw [a6h, g3, Nat.mul_zero, Nat.add_zero]
  have hmod : wv 4294967296 win = wv 4294967296 (u.drop k) % wv 4294967296 v := by
    have := Nat.div_add_mod (wv 4294967296 (u.drop k)) (wv 4294967296 v)
    rw [<- hd, Nat.mul_comm] at this; omega
  refine ⟨hl, ((h2.take k).app hwa).app (h2.drop _), by simp [h3], h4.set hd32, ?_, ?_⟩
  · have e1 : wv 4294967296 (u.take k ++ win ++ u.drop (k + v.length + 1)) = wv 4294967296 (u.take k) + 4294967296 ^ k * wv 4294967296 win := by
      rw [c2b, a6h, htk, hwv]
    have e2 := a2n 4294967296 u k (by omega)
    have e3 : wv 4294967296 ((q.set k d).drop k) = d + 4294967296 * wv 4294967296 (q.drop (k + 1)) := by
      rw [a1Y _ (by simpa using hkq), List.getElem_set_self, List.drop_set_of_lt (by omega)]
    rw [e1, e3, <- h5, e2, <- hw, c2i]
    grind
  · rw [hdk, hwv, hmod]
    exact Nat.mod_lt _ hpos
theorem b5e {U0 : Nat} {v : List Nat} {L : Nat} {u q : List Nat} (h : a5g U0 v L 0 u q) (hv : F6 v) (hl : v.length <= L) : wv 4294967296 q = U0 / wv 4294967296 v /\ wv 4294967296 (u.take v.length) = U0 % wv 4294967296 v := by
 obtain ⟨h1, h2, h3, h4, h5, h6⟩ := h
 rw [List.drop_zero] at h5 h6
 simp only [Nat.pow_zero, Nat.one_mul] at h5
 have hvl := J5 4294967296 hv
 have e2 := a2n 4294967296 u v.length (by omega)
 have hz : wv 4294967296 (u.drop v.length) = 0 := by
  rcases c1Y (wv 4294967296 (u.drop v.length)) with h0 | h0
  ·exact h0
  ·have := Nat.mul_le_mul_left (4294967296 ^ v.length) h0
   omega
 rw [hz, Nat.mul_zero, Nat.add_zero] at e2
 rw [<- e2, <- h5]
 refine ⟨?_, ?_⟩
 ·rw [Nat.add_mul_div_left _ _ (by omega), Nat.div_eq_of_lt h6, c2e]
 ·rw [Nat.add_mul_mod_self_left, Nat.mod_eq_of_lt h6]
def a2h (l : List UInt8) (i : Nat) (out : List Nat) : Prop :=
 out.length = (l.length + 7) / 8 /\ (∀ w ∈ out, w < 18446744073709551616) /\ wv 18446744073709551616 out = val (l.drop (l.length - i)) /\ ∀ j (h : j < out.length), out[j] < 256 ^ (i - 8 * j)
theorem a8c (l : List UInt8) : a2h l 0 (List.replicate ((l.length + 7) / 8) 0) := by
 refine ⟨by simp, fun w hw => by rw [c2a hw]; decide, ?_, fun j h => by simp⟩
 rw [a5y]; simp [val]
theorem b2n (i : Nat) : 18446744073709551616 ^ (i / 8) * 256 ^ (i % 8) = 256 ^ i := by
 have h : (18446744073709551616 : Nat) = 256 ^ 8 := by decide
 rw [h, <- Nat.pow_mul, <- Nat.pow_add]
 congr 1; omega
theorem a7M {l : List UInt8} {i : Nat} {out : List Nat} (h : a2h l i out) (hi : i < l.length) (hj : i / 8 < out.length) :
  a2h l (i + 1) (out.set (i / 8) (out[i / 8] ||| (l[l.length - 1 - i]).toNat * 2 ^ (8 * (i % 8)))) /\ out[i / 8] ||| (l[l.length - 1 - i]).toNat * 2 ^ (8 * (i % 8)) < 18446744073709551616 /\ (l[l.length - 1 - i]).toNat * 2 ^ (8 * (i % 8)) < 18446744073709551616 := by
 obtain ⟨h1, h2, h3, h4⟩ := h
 have e256 : 2 ^ (8 * (i % 8)) = 256 ^ (i % 8) := by rw [Nat.pow_mul]
 have hb := (l[l.length - 1 - i]).toNat_lt
 have hlow := h4 (i / 8) hj
 rw [show i - 8 * (i / 8) = i % 8 by omega] at hlow
 have hor : out[i / 8] ||| (l[l.length - 1 - i]).toNat * 2 ^ (8 * (i % 8)) = out[i / 8] + (l[l.length - 1 - i]).toNat * 256 ^ (i % 8) := by
  rw [a2y (by rw [e256]; exact hlow), e256]
 rw [hor, e256]
 have hpos := Nat.pow_pos (n := i % 8) (show 0 < 256 by decide)
 have hmul : (l[l.length - 1 - i]).toNat * 256 ^ (i % 8) <= 255 * 256 ^ (i % 8) := c2h _ (by omega)
 have hnew : out[i / 8] + (l[l.length - 1 - i]).toNat * 256 ^ (i % 8) < 256 ^ (i % 8 + 1) := by rw [c2i]; omega
 have h4p : (256 : Nat) ^ (i % 8 + 1) <= 256 ^ 8 := c2c (by decide) (by omega)
 have h44 : (256 : Nat) ^ 8 = 18446744073709551616 := by decide
 refine ⟨⟨by simp [h1], fun w hw => ?_, ?_, fun j hjl => ?_⟩, by omega, by omega⟩
 ·rcases mem_set hw with rfl | hw
  ·omega
  ·exact h2 w hw
 ·have hs := a3K 18446744073709551616 hj (out[i / 8] + (l[l.length - 1 - i]).toNat * 256 ^ (i % 8))
  rw [Nat.mul_add, <- c2f, Nat.mul_right_comm, c2f, Nat.mul_comm (l[l.length - 1 - i]).toNat, Nat.mul_comm _ (l[l.length - 1 - i]).toNat] at hs
  rw [show l.length - (i + 1) = l.length - 1 - i by omega, a5D hi, <- h3, <- b2n i]
  have : 18446744073709551616 ^ (i / 8) * ((l[l.length - 1 - i]).toNat * 256 ^ (i % 8)) = (l[l.length - 1 - i]).toNat * (18446744073709551616 ^ (i / 8) * 256 ^ (i % 8)) := by grind
  have hs' := a3K 18446744073709551616 hj (out[i / 8] + (l[l.length - 1 - i]).toNat * 256 ^ (i % 8))
  rw [Nat.mul_add] at hs'
  omega
 ·rw [List.getElem_set]
  split
  ·rename_i e; subst e
   rw [show i + 1 - 8 * (i / 8) = i % 8 + 1 by omega]; exact hnew
  ·have h5 := h4 j (by simpa using hjl)
   have : (256 : Nat) ^ (i - 8 * j) <= 256 ^ (i + 1 - 8 * j) := c2c (by decide) (by omega)
   omega
def a2q (x y : List Nat) (i : Nat) (out : List Nat) (c : Nat) : Prop :=
 out.length = x.length /\ (∀ w ∈ out, w < 18446744073709551616) /\ c <= 1 /\ out.drop i = x.drop i /\ wv 18446744073709551616 (out.take i) + wv 18446744073709551616 (y.take i) + 18446744073709551616 ^ i * 0 = wv 18446744073709551616 (x.take i) + 18446744073709551616 ^ i * c
theorem a5G {x : List Nat} (y : List Nat) (hx : ∀ w ∈ x, w < 18446744073709551616) : a2q x y 0 x 0 := by
 refine ⟨rfl, hx, by omega, rfl, by simp [wv]⟩
theorem a5F {x y : List Nat} {i : Nat} {out : List Nat} {c : Nat} (h : a2q x y i out c) (hi : i < x.length) {t c' : Nat} (ht : t < 18446744073709551616) (hc : c' <= 1) (hs : t + c + y.getD i 0 = x[i] + 18446744073709551616 * c') :
  a2q x y (i + 1) (out.set i t) c' := by
 obtain ⟨h1, h2, h3, hd, h4⟩ := h
 refine ⟨by simp [h1], fun w hw => ?_, hc, Z4 _ hd, ?_⟩
 ·rcases mem_set hw with rfl | hw
  ·exact ht
  ·exact h2 w hw
 ·rw [N7 _ (by omega), A9 _ hi, a1X]
  have e := congrArg (18446744073709551616 ^ i * ·) hs
  simp only [Nat.mul_add] at e
  rw [<- c2f, <- c2i] at e
  simp only [Nat.succ_eq_add_one] at e
  omega
theorem a6e {x y : List Nat} {out : List Nat} {c : Nat} (h : a2q x y x.length out c) (hl : y.length <= x.length) (hle : wv 18446744073709551616 y <= wv 18446744073709551616 x) : c = 0 /\ wv 18446744073709551616 out + wv 18446744073709551616 y = wv 18446744073709551616 x := by
 obtain ⟨h1, h2, h3, _, h4⟩ := h
 rw [c1U, c1W (by omega), c1W hl] at h4
 have := J5 18446744073709551616 h2
 rw [h1] at this
 have hc : c = 0 := by
  rcases c1Y c with h0 | h0
  ·exact h0
  ·have : c = 1 := by omega
   subst this
   omega
 subst hc
 exact ⟨rfl, by omega⟩
def a1l (r0 : List Nat) (p i : Nat) (out : List Nat) : Prop :=
 out.length = r0.length /\ (∀ w ∈ out, w < 18446744073709551616) /\ out.drop i = r0.drop i /\ wv 18446744073709551616 (out.take i) * p + r0.getD 0 0 % p = wv 18446744073709551616 (r0.take i) + 18446744073709551616 ^ i * (r0.getD i 0 % p)
theorem a4g {r0 : List Nat} {p : Nat} (h : ∀ w ∈ r0, w < 18446744073709551616) : a1l r0 p 0 r0 := ⟨rfl, h, rfl, by simp [wv]⟩
theorem a3X {r0 : List Nat} {by' i : Nat} {out : List Nat} (h : a1l r0 (2 ^ by') i out) (hb : by' < 64) (hi : i < r0.length) (h0 : ∀ w ∈ r0, w < 18446744073709551616) {t : Nat}
  (ht : t = if i + 1 < r0.length then r0[i] / 2 ^ by' ||| (r0.getD (i + 1) 0 * 2 ^ (64 - by') % 18446744073709551616) else r0[i] / 2 ^ by') : a1l r0 (2 ^ by') (i + 1) (out.set i t) /\ t < 18446744073709551616 := by
 obtain ⟨h1, h2, h3, h4⟩ := h
 have hp0 : 0 < (2 : Nat) ^ by' := Nat.pow_pos (by decide)
 have hx := h0 _ (c1N hi)
 have e32 : (18446744073709551616 : Nat) = 2 ^ by' * 2 ^ (64 - by') := by rw [<- Nat.pow_add, show by' + (64 - by') = 64 by omega]
 have hd : r0[i] / 2 ^ by' < 2 ^ (64 - by') := by
  rw [Nat.div_lt_iff_lt_mul hp0, Nat.mul_comm, <- e32]; exact hx
 have ht' : t = r0[i] / 2 ^ by' + (r0.getD (i + 1) 0 % 2 ^ by') * 2 ^ (64 - by') := by
  rw [ht]
  split
  ·rename_i hlt
   have hmod : r0.getD (i + 1) 0 * 2 ^ (64 - by') % 18446744073709551616 = (r0.getD (i + 1) 0 % 2 ^ by') * 2 ^ (64 - by') := by
    conv => lhs; rw [e32, Nat.mul_mod_mul_right]
   rw [hmod, a2y hd]
  ·rename_i hge
   have : r0.getD (i + 1) 0 = 0 := by rw [c1O, c2k (by omega)]; rfl
   rw [this]; simp
 have hm1 : r0.getD (i + 1) 0 % 2 ^ by' + 1 <= 2 ^ by' := Nat.mod_lt _ hp0
 have hm2 : (r0.getD (i + 1) 0 % 2 ^ by' + 1) * 2 ^ (64 - by') <= 18446744073709551616 := by
  have := c2h (2 ^ (64 - by')) hm1
  rw [<- e32] at this; exact this
 have hlt : t < 18446744073709551616 := by rw [ht']; rw [Nat.add_mul, Nat.one_mul] at hm2; omega
 refine ⟨⟨by simp [h1], fun w hw => ?_, Z4 _ h3, ?_⟩, hlt⟩
 ·rcases mem_set hw with rfl | hw
  ·exact hlt
  ·exact h2 w hw
 ·rw [N7 _ (by omega), A9 _ hi]
  rw [getD_lt hi] at h4
  have e1 : t * 2 ^ by' = r0[i] / 2 ^ by' * 2 ^ by' + (r0.getD (i + 1) 0 % 2 ^ by') * 18446744073709551616 := by
   rw [ht', Nat.add_mul, c2f (r0.getD (i + 1) 0 % 2 ^ by'), Nat.mul_comm (2 ^ (64 - by')), <- e32]
  have e2 : r0[i] = r0[i] / 2 ^ by' * 2 ^ by' + r0[i] % 2 ^ by' := by
   have := Nat.div_add_mod r0[i] (2 ^ by')
   rw [Nat.mul_comm] at this; omega
  rw [Nat.add_mul, c2f, e1, c2i]
  generalize r0[i] / 2 ^ by' * 2 ^ by' = a at *
  generalize r0[i] % 2 ^ by' = b at *
  rw [e2]
  generalize r0.getD (i + 1) 0 % 2 ^ by' = c at *
  grind
theorem a4z {r0 : List Nat} {by' : Nat} {out : List Nat} (h : a1l r0 (2 ^ by') r0.length out) (hb : by' <= 64) {z : Nat} (hz : wv 18446744073709551616 r0 = z * 2 ^ by') : wv 18446744073709551616 out = z := by
 obtain ⟨h1, h2, _, h4⟩ := h
 have hp0 : 0 < (2 : Nat) ^ by' := Nat.pow_pos (by decide)
 rw [c1W (by omega), c1U, hz] at h4
 have e0 : r0.getD r0.length 0 = 0 := by rw [c1O, c2k (c1I _)]; rfl
 rw [e0, Nat.zero_mod, Nat.mul_zero, Nat.add_zero] at h4
 have hm : r0.getD 0 0 % 2 ^ by' = 0 := by
  cases hr : r0 with
  | nil => simp
  | cons a l =>
   rw [hr] at hz
   simp only [wv] at hz
   have e32 : (18446744073709551616 : Nat) = 2 ^ by' * 2 ^ (64 - by') := by rw [<- Nat.pow_add, show by' + (64 - by') = 64 by omega]
   rw [e32, c2f] at hz
   have h5 : (a + 2 ^ by' * (2 ^ (64 - by') * wv (2 ^ by' * 2 ^ (64 - by')) l)) % 2 ^ by' = a % 2 ^ by' := Nat.add_mul_mod_self_left ..
   rw [hz, Nat.mul_mod_left] at h5
   exact h5.symm
 rw [hm, Nat.add_zero] at h4
 exact Nat.eq_of_mul_eq_mul_right hp0 h4
structure Rt where
 neg : Bool
 num : List UInt8
 den : List UInt8
 deriving DecidableEq
def sgn (neg : Bool) (n : Nat) : Int := if neg = true then -(n : Int) else n
instance (l : List UInt8) : Decidable (canon l) := match l with
 | [] => .isTrue a5Y
 | b :: r => if h : b = 0 then .isFalse fun hc => hc r (by rw [h]) else .isTrue fun q e => h (by injection e)
def Rt.D6 (a : Rt) : Prop := a.den ≠ [] /\ canon a.den /\ canon a.num /\ (a.num = [] -> a.neg = false /\ a.den = [1]) /\ (a.den = [1] \/ Nat.gcd (val a.num) (val a.den) = 1)
instance (a : Rt) : Decidable a.D6 := by unfold Rt.D6; infer_instance
def ofQ (q : Rat) : Rt := ⟨decide (q.num < 0), enc q.num.natAbs, enc q.den⟩
def toQ (a : Rt) : Rat := mkRat (sgn a.neg (val a.num)) (val a.den)
def j3 (a : Rt) : Rat := if a.D6 then toQ a else 0
theorem a1G : enc 1 = [1] := by
 have : val [1] = 1 := rfl
 rw [<- this, a6w]; rfl
theorem b2S (q : Rat) : sgn (decide (q.num < 0)) q.num.natAbs = q.num := by
 unfold sgn
 by_cases h : q.num < 0
 ·rw [if_pos (by simpa using h)]; omega
 ·rw [if_neg (by simpa using h)]; omega
theorem c0N (q : Rat) : toQ (ofQ q) = q := by
 unfold toQ ofQ
 simp only [J2, b2S]
 exact Rat.mkRat_self q
theorem a6G (q : Rat) : (ofQ q).D6 := by
 unfold Rt.D6 ofQ
 simp only [J2]
 refine ⟨a4J q.den_nz, a2T _, a2T _, fun h => ?_, .inr q.reduced⟩
 have h0 : q.num.natAbs = 0 := by
  rcases c1Y q.num.natAbs with h0 | h0
  ·exact h0
  ·exact absurd h (a4J (by omega))
 have h1 := q.reduced
 rw [Nat.Coprime, h0, Nat.gcd_zero_left] at h1
 rw [h1, a1G]
 exact ⟨decide_eq_false (by omega), rfl⟩
theorem a3j (b : Bool) (n : Nat) : (sgn b n).natAbs = n := by unfold sgn; split <;> omega
theorem b9T {a : Rt} (h : a.D6) : Nat.gcd (val a.num) (val a.den) = 1 := by
 rcases h.2.2.2.2 with h1 | h1
 ·rw [h1]; exact Nat.gcd_one_right _
 ·exact h1
theorem den_pos {a : Rt} (h : a.D6) : val a.den ≠ 0 := fun h0 => h.1 ((val_zero h.2.1).1 h0)
theorem b9n {a : Rt} (h : a.D6) : (toQ a).num = sgn a.neg (val a.num) /\ (toQ a).den = val a.den := by
 unfold toQ
 rw [Rat.num_mkRat, Rat.den_mkRat, if_neg (den_pos h), if_neg (den_pos h), a3j, Nat.gcd_comm, b9T h]
 simp
theorem c0B {a : Rt} (h : a.D6) : ofQ (toQ a) = a := by
 obtain ⟨h1, h2⟩ := b9n h
 obtain ⟨neg, num, den⟩ := a
 unfold ofQ
 rw [h1, h2, a3j]
 simp only [a1a h.2.1, a1a h.2.2.1] at *
 congr 1
 have hz := val_zero h.2.2.1
 have h3 := h.2.2.2.1
 simp only at hz h3
 unfold sgn
 cases neg with
 | true =>
  simp only [if_true]
  have : val num ≠ 0 := fun h0 => by have := (h3 (hz.1 h0)).1; cases this
  exact decide_eq_true (by omega)
 | false =>
  simp only [c2j, if_false]
  exact decide_eq_false (by omega)
theorem E9 (q : Rat) : j3 (ofQ q) = q := by unfold j3; rw [if_pos (a6G q), c0N]
theorem a6n {a : Rt} (h : a.D6) : ofQ (j3 a) = a := by unfold j3; rw [if_pos h, c0B h]
def a2G : Rt := ⟨false, [], [1]⟩
theorem a2z : ofQ 0 = a2G := by
 unfold ofQ a2G
 have h1 : (0 : Rat).num = 0 := rfl
 have h2 : (0 : Rat).den = 1 := rfl
 rw [h1, h2, a1G]
 simp [a1e]
theorem a8z (neg : Bool) {n d : Nat} (hd : d ≠ 0) : (if n = 0 then a2G else ⟨neg, enc (n / Nat.gcd n d), enc (d / Nat.gcd n d)⟩) = ofQ (mkRat (sgn neg n) d) := by
 split
 ·rename_i h0
  subst h0
  have : sgn neg 0 = 0 := by unfold sgn; split <;> rfl
  rw [this, Rat.zero_mkRat, a2z]
 ·rename_i h0
  unfold ofQ
  rw [Rat.num_mkRat, Rat.den_mkRat, if_neg hd, if_neg hd, a3j, Nat.gcd_comm d n]
  have hg : 0 < Nat.gcd n d := Nat.gcd_pos_of_pos_right _ (by omega)
  have hdv : Nat.gcd n d ∣ n := Nat.gcd_dvd_left ..
  have hq : 0 < n / Nat.gcd n d := Nat.div_pos (Nat.le_of_dvd (by omega) hdv) hg
  have e : sgn neg n / ((Nat.gcd n d : Nat) : Int) = sgn neg (n / Nat.gcd n d) := by
   unfold sgn
   split
   ·rw [Int.neg_ediv_of_dvd (by exact Int.ofNat_dvd.2 hdv)]; simp
   ·simp
  rw [e, a3j]
  congr 1
  unfold sgn
  cases neg with
  | true => simp only [if_true]; exact (decide_eq_true (by omega)).symm
  | false => simp only [c2j, if_false]; exact (decide_eq_false (by omega)).symm
def K6 (neg : Bool) (a : Nat) (mi : Bool) (b : Nat) : Bool × Nat := if neg = mi then (neg, a + b) else if b <= a then (neg, a - b) else (mi, b - a)
theorem a9b (neg : Bool) (a : Nat) (mi : Bool) (b : Nat) : sgn (K6 neg a mi b).1 (K6 neg a mi b).2 = sgn neg a + sgn mi b := by
 unfold K6 sgn
 cases neg <;> cases mi <;> simp only [if_true, c2j, if_false, reduceCtorEq] <;> (try split) <;> simp_all <;> omega
theorem b8g (x y : Bool) (a b : Nat) : sgn (x != y) (a * b) = sgn x a * sgn y b := by
 unfold sgn
 cases x <;> cases y <;> simp [Int.natCast_mul, Int.neg_mul, Int.mul_neg]
theorem a4x (x : Bool) (a b : Nat) : sgn x (a * b) = sgn x a * (b : Int) := by
 unfold sgn
 cases x <;> simp [Int.natCast_mul, Int.neg_mul]
def q8 (a b : Rat) : Int := if a < b then -1 else if a = b then 0 else 1
def a0n (a b : Nat) : Int := if a < b then -1 else if a = b then 0 else 1
theorem b7V (a b : Rat) : q8 a b = if decide (a.num < 0) ≠ decide (b.num < 0) then (if decide (a.num < 0) = true then -1 else 1) else if decide (a.num < 0) = true then - a0n (a.num.natAbs * b.den) (b.num.natAbs * a.den) else a0n (a.num.natAbs * b.den) (b.num.natAbs * a.den) := by
 have hlt := Rat.lt_iff a b
 have hlt2 := Rat.lt_iff b a
 have hd1 : 0 < (a.den : Int) := by have := a.den_pos; omega
 have hd2 : 0 < (b.den : Int) := by have := b.den_pos; omega
 have heq : a = b <-> a.num * b.den = b.num * a.den := by
  constructor
  ·rintro rfl; rfl
  ·intro h
   have h1 : ¬ a < b := fun h' => by have := hlt.1 h'; omega
   have h2 : ¬ b < a := fun h' => by have := hlt2.1 h'; omega
   exact Rat.le_antisymm (Rat.not_lt.1 h2) (Rat.not_lt.1 h1)
 unfold q8
 simp only [hlt, heq]
 by_cases hA : a.num < 0
 ·by_cases hB : b.num < 0
  ·simp only [decide_eq_true hA, decide_eq_true hB, ne_eq, not_true_eq_false, if_false, if_true]
   have e1 : a.num * b.den = -((a.num.natAbs * b.den : Nat) : Int) := by
    rw [Int.natCast_mul, <- Int.neg_mul]; congr 1; omega
   have e2 : b.num * a.den = -((b.num.natAbs * a.den : Nat) : Int) := by
    rw [Int.natCast_mul, <- Int.neg_mul]; congr 1; omega
   rw [e1, e2]
   unfold a0n
   repeat' split
   all_goals omega
  ·simp only [decide_eq_true hA, decide_eq_false hB, ne_eq, reduceCtorEq, not_false_eq_true, if_true]
   have e1 : a.num * b.den < 0 := Int.mul_neg_of_neg_of_pos hA hd2
   have e2 : 0 <= b.num * a.den := Int.mul_nonneg (by omega) (by omega)
   rw [if_pos (by omega)]
 ·by_cases hB : b.num < 0
  ·simp only [decide_eq_false hA, decide_eq_true hB, ne_eq, reduceCtorEq, not_false_eq_true, if_true, if_false]
   have e1 : b.num * a.den < 0 := Int.mul_neg_of_neg_of_pos hB hd1
   have e2 : 0 <= a.num * b.den := Int.mul_nonneg (by omega) (by omega)
   rw [if_neg (by omega), if_neg (by omega)]
  ·simp only [decide_eq_false hA, decide_eq_false hB, ne_eq, reduceCtorEq, not_true_eq_false, if_false]
   have e1 : a.num * b.den = ((a.num.natAbs * b.den : Nat) : Int) := by
    rw [Int.natCast_mul]; congr 1; omega
   have e2 : b.num * a.den = ((b.num.natAbs * a.den : Nat) : Int) := by
    rw [Int.natCast_mul]; congr 1; omega
   rw [e1, e2]
   unfold a0n
   repeat' split
   all_goals omega
theorem a5l {d y : Nat} (hy : y % 2 = 1) (k : Nat) : Nat.gcd (2 ^ k * d) y = Nat.gcd d y := by
 have hc : Nat.Coprime (2 ^ k) y := by
  apply Nat.Coprime.pow_left
  have : Nat.gcd 2 y = Nat.gcd (y % 2) 2 := Nat.gcd_rec 2 y
  unfold Nat.Coprime
  rw [this, hy]
  rfl
 exact Nat.Coprime.gcd_mul_left_cancel d hc
theorem a9q {x y : Nat} (h : y <= x) : Nat.gcd (x - y) y = Nat.gcd x y := by
 have : x = (x - y) + y := by omega
 conv => rhs; rw [this]
 rw [Nat.gcd_add_self_left]
theorem b7t {x y n m : Nat} (hx : x % 2 = 1) (hy : y % 2 = 1) : Nat.gcd (2 ^ n * x) (2 ^ m * y) = 2 ^ (min n m) * Nat.gcd x y := by
 rcases Nat.le_total n m with h | h
 ·rw [Nat.min_eq_left h]
  obtain ⟨k, rfl⟩ : ∃ k, m = n + k := ⟨m - n, by omega⟩
  rw [Nat.pow_add, c2f, Nat.gcd_mul_left, Nat.gcd_comm x, a5l hx, Nat.gcd_comm]
 ·rw [Nat.min_eq_right h]
  obtain ⟨k, rfl⟩ : ∃ k, n = m + k := ⟨n - m, by omega⟩
  rw [Nat.pow_add, c2f, Nat.gcd_mul_left, a5l hy]
def v2 (n : Nat) : Nat := if n = 0 then 0 else if n % 2 = 1 then 0 else 1 + v2 (n / 2)
termination_by n
decreasing_by omega
theorem a2m {n : Nat} (h : n ≠ 0) : ∃ q, n = 2 ^ v2 n * q /\ q % 2 = 1 := by
 induction n using Nat.strongRecOn with
 | _ n ih =>
  unfold v2
  rw [if_neg h]
  split
  ·rename_i h1; exact ⟨n, by simp, h1⟩
  ·obtain ⟨q, h1, h2⟩ := ih (n / 2) (by omega) (by omega)
   refine ⟨q, ?_, h2⟩
   rw [Nat.pow_add, Nat.pow_one, c2f, <- h1]
   omega
theorem b7H {n k q : Nat} (h : n = 2 ^ k * q) (hq : q % 2 = 1) : v2 n = k := by
 induction k generalizing n with
 | zero =>
  unfold v2
  rw [Nat.pow_zero, Nat.one_mul] at h
  subst h
  rw [if_neg (by omega), if_pos hq]
 | succ k ih =>
  rw [c2i, Nat.mul_comm (2 ^ k), c2f] at h
  have h1 : n / 2 = 2 ^ k * q := by omega
  have h0 : 0 < 2 ^ k * q := Nat.mul_pos (Nat.pow_pos (by decide)) (by omega)
  unfold v2
  rw [if_neg (by omega), if_neg (by omega), ih h1]
  omega
end Go.Proofs.YtogfpjohjphngaaGreatDoor.Nm
namespace Go.Proofs.YtogfpjohjphngaaGreatDoor
open Go Go.RowKit Eng
def bs (l : List UInt8) : ByteArray := ⟨l.toArray⟩
theorem a0h (a b : List UInt8) : bs a ++ bs b = bs (a ++ b) := by
 apply ByteArray.ext
 simp [bs]
theorem w9 (a : List UInt8) : (bs a).size = a.length := by simp [bs, ByteArray.size]
theorem b8J (s : ByteArray) : bs s.data.toList = s := by apply ByteArray.ext; simp [bs]
theorem O8 (l : List UInt8) : (bs l).data.toList = l := by simp [bs]
theorem b0l {a b : List UInt8} (h : bs a = bs b) : a = b := by
 have := congrArg (fun x : ByteArray => x.data.toList) h
 simpa [O8] using this
theorem a5b (a b : List UInt8) : (bs a = bs b) = (a = b) := propext ⟨b0l, fun h => by rw [h]⟩
theorem a1P (l : List UInt8) : (⟨l.toArray⟩ : ByteArray) = bs l := rfl
theorem a8n (l : List UInt8) (i j : Nat) : (bs l).extract i j = bs ((l.take j).drop i) := by
 apply ByteArray.ext
 apply Array.ext'
 simp [bs, ByteArray.data_extract, Array.toList_extract, List.drop_take, List.extract_eq_take_drop]
def sb (l : List UInt8) : C := .v (.string (bs l))
def ints (n : Int) : C := .v (.int .i64 n)
def wd (w : Nat) : List C := [.v (.int .u32 w)]
def lm (w : Nat) : List C := [.v (.int .u64 w)]
attribute [go_sem] sb ints
theorem b0t (n : Nat) : IntKind.u32.wrap (n : Int) = ((n % 4294967296 : Nat) : Int) := by
 have h1 : IntKind.u32.wrap (n : Int) = (n : Int) % 4294967296 := by simp [IntKind.wrap, IntKind.signed, IntKind.bits]
 rw [h1]
 omega
theorem a1t (n : Nat) : IntKind.u8.wrap (n : Int) = ((n % 256 : Nat) : Int) := by
 have h1 : IntKind.u8.wrap (n : Int) = (n : Int) % 256 := by simp [IntKind.wrap, IntKind.signed, IntKind.bits]
 rw [h1]
 omega
theorem a3O (n : Nat) : IntKind.u64.wrap (n : Int) = ((n % 18446744073709551616 : Nat) : Int) := by
 have h1 : IntKind.u64.wrap (n : Int) = (n : Int) % 18446744073709551616 := by simp [IntKind.wrap, IntKind.signed, IntKind.bits]
 rw [h1]
 omega
theorem a7H (a b : Nat) (ha : a < 18446744073709551616) (hb : b < 18446744073709551616) : bits .or .u64 (a : Int) (b : Int) = ((a ||| b : Nat) : Int) := bits_or_u64_nat a b ha hb
theorem b4u (a b : Nat) (ha : a < 4294967296) (hb : b < 4294967296) : bits .or .u32 (a : Int) (b : Int) = ((a ||| b : Nat) : Int) := by
 have hx : a ||| b < 2 ^ 32 := Nat.or_lt_two_pow (by omega) (by omega)
 have h1 : (BitVec.ofInt 32 (a : Int)).toNat = a := by
  rw [BitVec.ofInt_natCast, BitVec.toNat_ofNat]; exact Nat.mod_eq_of_lt (by omega)
 have h2 : (BitVec.ofInt 32 (b : Int)).toNat = b := by
  rw [BitVec.ofInt_natCast, BitVec.toNat_ofNat]; exact Nat.mod_eq_of_lt (by omega)
 show IntKind.u32.wrap ((BitVec.ofInt 32 (a : Int) ||| BitVec.ofInt 32 (b : Int)).toNat : Int) = _
 rw [BitVec.toNat_or, h1, h2, Eng.wrap_u32 (by omega)]
theorem a1C (n k : Nat) : Int.fdiv (n : Int) (k : Int) = ((n / k : Nat) : Int) := by
 rw [Int.fdiv_eq_ediv_of_nonneg _ (by omega)]
 rfl
end Go.Proofs.YtogfpjohjphngaaGreatDoor
