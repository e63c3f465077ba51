/- Regions whose order is drawn: what is asked of each operation, and that it serves. -/
import Derived.Test.YtaicmkocmnikjaaDoorDrw
namespace Go.Proofs.YtaicmkocmnikjaaDoor.Eng
set_option linter.all false
open Go Go.RowKit

/-- a quiet call, and what is asked behind it -/
def CallQ (E : Ctx) (rs : List Res) (p : Bool) (f : Nat) (args : List C) (K : C → Prop) : Prop := ∃ r, CallP E rs p f args r ∧ K r
def evQ (E : Ctx) (ov : Operand → C) (rs : List Res) (p : Bool) (o : IOp) (K : C → Prop) : Prop :=
  match o with
  | .call f args => argsR p ov args ∧ CallQ E rs p f (argsV ov args) K
  | .callv x args => req p (ov x) ∧ argsR p ov args ∧ match strip (ov x) with
    | .v (.func (.func f) ⟨[]⟩ ⟨caps⟩) => callable E.P f = true ∧ CallQ E rs p f (argsV ov args ++ caps.map .v) K
    | .clo f caps => callable E.P f = true ∧ CallQ E rs p f (argsV ov args ++ caps) K
    | _ => False
  | .bsl _ sz n zero parts => oneAll zero = true ∧ zero.length = sz ∧ 0 < sz ∧ reqE p ov parts ∧ bslOK n sz (partsE ov parts) ∧ (n * sz ≤ 16777216 ∧ n ≤ 16777216) ∧ K (.sl sz (setParts (List.replicate n (zero.map .v)) (partsE ov parts)))
  | .bsl0 _ => K .nl
  | .mksl _ bytes zero l c => oneAll zero = true ∧ 0 < zero.length ∧ req p (ov l) ∧ req p (ov c) ∧ match strip (ov l), strip (ov c) with
    | .v (.int .i64 l), .v (.int .i64 c) => (p = true → 0 ≤ l ∧ l ≤ c ∧ c ≤ 140737488355328 ∧ c.toNat * bytes ≤ 140737488355328) ∧ K (.sl zero.length (List.replicate l.toNat (zero.map .v)))
    | _, _ => False
  | o => pureP ov rs p o K

def KgP (p : Bool) (K : C → Prop) (s : C) : Prop := K (.g p s)
def evQ1 (E : Ctx) (fr : List (Nat × C)) (rs : List Res) (o : IOper) (K : C → Prop) : Prop :=
  match o.guard with
  | none => evQ E (opv fr) rs true o.op K
  | some (s, want) => match slot fr s with
    | .v (.bool b) => evQ E (opv fr) rs (b == want) o.op (KgP (b == want) K)
    | .g q (.v (.bool b)) => evQ E (opv fr) rs (q && (b == want)) o.op (KgP (q && (b == want)) K)
    | _ => False
def evF1 (fr : List (Nat × C)) (rs : List Res) (o : IOper) (K : C → Prop) : Prop :=
  match o.guard with
  | none => pureP (opv fr) rs true o.op K
  | some (s, want) => match slot fr s with
    | .v (.bool b) => pureP (opv fr) rs (b == want) o.op (KgP (b == want) K)
    | .g q (.v (.bool b)) => pureP (opv fr) rs (q && (b == want)) o.op (KgP (q && (b == want)) K)
    | _ => False

def C.nj : C → Bool
  | .junk => false
  | _ => true
/-- what a floating operation looks at -/
def opsV (fr : List (Nat × C)) (o : IOper) : List C := o.op.uses.map (opv fr) ++ (match o.guard with
  | some (s, _) => [slot fr s]
  | none => [])
def njL : List C → Bool
  | [] => true
  | c :: r => c.nj && njL r
def noRef (pk : List Nat) : List C → Bool
  | [] => true
  | c :: r => !(c.hasAny pk) && noRef pk r
def subR : List Res → List Res → Prop
  | [], _ => True
  | .gone :: h, _ :: r => subR h r
  | x :: h, y :: r => x = y ∧ subR h r
  | _ :: _, [] => False
def findP (t : Nat) : List (Nat × Pd) → Option Pd
  | [] => none
  | (s, p) :: r => bif s == t then some p else findP t r
def rmP (t : Nat) : List (Nat × Pd) → List (Nat × Pd)
  | [] => []
  | (s, p) :: r => bif s == t then rmP t r else (s, p) :: rmP t r

/-- what is known on the way -/
structure DS where
  fr : List (Nat × C)
  rs : List Res
  pend : List (Nat × Pd)
  fv : List C
  pk : List Nat

def KQd (x : DS) (d : Option Nat) (K : DS → Prop) (s : C) : Prop := K { x with fr := putFr x.fr d s }
def KFd (x : DS) (d : Option Nat) (o : IOper) (K : DS → Prop) (s : C) : Prop := K { x with fr := putFr x.fr d s, fv := s :: (opsV x.fr o ++ x.fv) }
def KEd (E : Ctx) (hid : List Res) (x : DS) (d : Option Nat) (K : DS → Prop) (s : C) (rs' : List Res) (pk : List Nat) : Prop := subR hid rs' ∧ pkOK E pk ∧ K ⟨putFr (purgeFr pk x.fr) d s, rs', x.pend, x.fv, pk ++ x.pk⟩
def ev1d (E : Ctx) (hid : List Res) (t : DT) (o : IOper) (x : DS) (K : DS → Prop) : Prop :=
  match t with
  | .q => evQ1 E x.fr x.rs o (KQd x o.dst K)
  | .f => njL (opsV x.fr o) = true ∧ evF1 x.fr hid o (KFd x o.dst o K)
  | .a => match o.op, o.dst with
    | .alloc t zero, some ta => oneAll zero = true ∧ K { x with fr := putFr x.fr (some ta) .junk, pend := (ta, ⟨t, zero⟩) :: x.pend }
    | _, _ => False
  | .e none => evE E (opv x.fr) x.rs o.op (KEd E hid x o.dst K)
  | .e (some ta) => match findP ta x.pend with
    | some p => evE E (opv ((ta, .bp x.rs.length 0) :: x.fr)) (x.rs ++ [.box p.ty (p.zero.map .v)]) o.op (KEd E hid { x with fr := (ta, .bp x.rs.length 0) :: x.fr, pend := rmP ta x.pend } o.dst K)
    | none => False
def evD (E : Ctx) (hid : List Res) : List DT → List IOper → DS → (St → Prop) → Prop
  | [], [], x, K => x.pend = [] ∧ noRef x.pk x.fv = true ∧ K ⟨x.fr, x.rs⟩
  | t :: ts, o :: r, x, K => ev1d E hid t o x fun x' => evD E hid ts r x' K
  | _, _, _, _ => False
def KRD (E : Ctx) (hid : List Res) (ts : List DT) (r : List IOper) (K : St → Prop) (x : DS) : Prop := evD E hid ts r x K
theorem evD_nil (E : Ctx) (hid : List Res) (x : DS) (K : St → Prop) : evD E hid [] [] x K = (x.pend = [] ∧ noRef x.pk x.fv = true ∧ K ⟨x.fr, x.rs⟩) := rfl
theorem evD_cons (E : Ctx) (hid : List Res) (t : DT) (ts : List DT) (o : IOper) (r : List IOper) (x : DS) (K : St → Prop) : evD E hid (t :: ts) (o :: r) x K = ev1d E hid t o x (KRD E hid ts r K) := rfl

section
variable {E : Ctx} {P : Program} {ν : List Value} {rs : List Res} {a : Act} {w : World} {av own0 : Nat → Prop} {n0 : Nat} {ov : Operand → C}

theorem zero_fz {O : Nat → Prop} (z : List Value) : ∀ n, FzL w O (List.replicate n (z.map C.v)).flatten (List.replicate n z).flatten
  | 0 => by simp [FzL]
  | n + 1 => by rw [List.replicate_succ, List.replicate_succ, List.flatten_cons, List.flatten_cons]; exact (FzL.vs _).append (zero_fz z n)

/-- a block that is laid and never written: what its elements say -/
theorem fz_new {O : Nat → Prop} {e sz n c : Nat} {es : List (List C)} {us zs : List Value} (hO : ∀ b, O b → b < w.heap.size) (hes : es.length = n) (hl : ∀ q ∈ es, q.length = sz) (hF : FzL w O es.flatten us) (h1 : ∀ u ∈ us, u.oneCell' = true) (hz : zs.take (n * sz) = us) (hnc : n ≤ c) (hcm : c ≤ maxLen) :
    Fz (w.alloc (.cells zs.toArray e)) O (.sl sz es) (.slice (some ⟨w.heap.size, 0, none⟩) n c) := by
  have hk : Keeps O w O (w.alloc (.cells zs.toArray e)) := fun b hb hn => ⟨by simp; omega, hn, Below.heap_alloc w _ b hb⟩
  simp only [Fz]
  refine ⟨_, c, by rw [hes], by omega, hcm, fun h0 => ⟨_, rfl, by simp, fun hb => by have := hO _ hb; simp at this, ?_⟩⟩
  have hul : us.length = n * sz := by rw [hF.length, flat_len hl, hes]
  have hcell : ∀ (j : Nat) (v : Value), us[j]? = some v → (w.alloc (.cells zs.toArray e)).cell? ((⟨w.heap.size, 0, none⟩ : Addr).add j) = some v := fun j v hv => by
    rw [add_zero_off, Nat.zero_add, cell_of_row _ w.heap.size j _ _ _ (heap_alloc_new w _)]
    rw [← hz, List.getElem?_take] at hv
    split at hv
    · simpa using hv
    · cases hv
  have hF' := FzL.keep hk hF
  refine FzE.of fun k q hq => ⟨hl q (List.mem_of_getElem? hq), ?_⟩
  have hseg := flat_seg hl hq
  have hsub : FzL (w.alloc (.cells zs.toArray e)) O q ((us.drop (k * sz)).take sz) := by
    have := (hF'.drop (k * sz)).take sz
    rwa [hseg] at this
  refine FzA.of hsub (fun u hu => h1 u (List.mem_of_mem_drop (List.mem_of_mem_take hu))) fun i v hv => ?_
  rw [List.getElem?_take] at hv
  split at hv
  · rw [List.getElem?_drop] at hv
    rw [Nat.zero_add]
    exact hcell _ v hv
  · cases hv

/-- a quiet operation yields a value, and leaves what was there -/
def Yq (P : Program) (ν : List Value) (w : World) (O : Nat → Prop) (a : Act) (oo : Oper) (s : C) : Prop :=
  ∀ (K : Act → World → Prop) (Q : Exit → Act → World → Prop), (∀ y w', Below w.heap.size w w' → Den ν w' O s y → K (a.put oo.dst y) w') → oo.wp P a w K Q

theorem Yl.yq {O : Nat → Prop} {oo : Oper} {s : C} (h : Yl P ν w O a oo s) : Yq P ν w O a oo s := by
  intro K Q hK
  obtain ⟨y, hd, hrun⟩ := h
  unfold Oper.wp
  rw [hrun]
  exact hK y w (Below.refl _ _) hd

set_option maxHeartbeats 1000000 in
theorem evQ_sound {p : Bool} {o : IOp} {K : C → Prop} {oo : Oper} (his : Is E.P oo.type oo.op o) (h : evQ E ov rs p o K) :
    ∃ s, K s ∧ ∀ av ν (a : Act) w, RG av E.own0 E.w0.heap.size ν rs w → (∀ b, E.av b → av b) → Frm E.own0 E.w0 w → (∀ x ∈ o.uses, Den ν w (OO av rs ν) (ov x) (a.eval x)) → p = true → Yq E.P ν w (OO av rs ν) a oo s := by
  have pure_case : pureP ov rs p o K → ∃ s, K s ∧ ∀ av ν (a : Act) w, RG av E.own0 E.w0.heap.size ν rs w → (∀ b, E.av b → av b) → Frm E.own0 E.w0 w → (∀ x ∈ o.uses, Den ν w (OO av rs ν) (ov x) (a.eval x)) → p = true → Yq E.P ν w (OO av rs ν) a oo s := fun h => by
    obtain ⟨s, hs, hy⟩ := pureP_sound his h
    exact ⟨s, hs, fun av ν a w hR _ _ hO hp => (hy ν a w _ hR.hr hO hp).yq⟩
  have call_case : ∀ (f : Nat) (cs : List C) (r : C), CallP E rs p f cs r → K r → (∀ av ν (a : Act) w, (∀ x ∈ o.uses, Den ν w (OO av rs ν) (ov x) (a.eval x)) → p = true → ∃ vs : List Value, (execOp a.eval oo).run E.P w = .ok (.enter f vs.toArray) w ∧ DenL ν w (OO av rs ν) cs vs) →
      ∃ s, K s ∧ ∀ av ν (a : Act) w, RG av E.own0 E.w0.heap.size ν rs w → (∀ b, E.av b → av b) → Frm E.own0 E.w0 w → (∀ x ∈ o.uses, Den ν w (OO av rs ν) (ov x) (a.eval x)) → p = true → Yq E.P ν w (OO av rs ν) a oo s := fun f cs r hP hk hrun =>
    ⟨r, hk, fun av ν a w hR hav hF hO hp K' Q hK => by
      obtain ⟨vs, h1, h2⟩ := hrun av ν a w hO hp
      unfold Oper.wp
      rw [h1]
      refine (hP hp av ν w vs hR hav hF h2).mono ?_
      rintro e w' ⟨y, rfl, hb, hd⟩
      exact hK y w' hb hd⟩
  have ltO : ∀ {av ν w}, RG av E.own0 E.w0.heap.size ν rs w → ∀ b, OO av rs ν b → b < w.heap.size := fun hR b hb => by
    rcases hb with hb | hb
    · exact hR.av b hb
    · exact (hR.low b hb).1
  cases o with
  | call f args =>
    obtain ⟨h1, r, hP, hk⟩ := h
    refine call_case f _ r hP hk fun av ν a w hO hp => ?_
    obtain ⟨dst, op, ty, pos, after, guard⟩ := oo
    simp only at his
    cases his with
    | call c f hcc hcl => exact ⟨_, by rw [exec_call hcc, run_callFunc_ok hcl], argsV_den hp h1 hO⟩
  | callv x args =>
    obtain ⟨h0, h1, h⟩ := h
    have hO' : ∀ {av ν w} {a : Act}, (∀ y ∈ (IOp.callv x args).uses, Den ν w (OO av rs ν) (ov y) (a.eval y)) → ∀ y ∈ args, Den ν w (OO av rs ν) (ov y) (a.eval y) := fun hO y hy => hO y (by simp only [IOp.uses, List.mem_cons]; exact .inr hy)
    split at h
    · rename_i f caps hx
      obtain ⟨hcl, r, hP, hk⟩ := h
      refine call_case f _ r hP hk fun av ν a w hO hp => ?_
      have e1 := opS hp (hO x (by simp [IOp.uses])) h0
      rw [hx] at e1
      have e1 := den_v e1
      obtain ⟨dst, op, ty, pos, after, guard⟩ := oo
      simp only at his
      cases his with
      | callv c x hc => exact ⟨_, by rw [exec_callv hc e1, run_callFunc_ok hcl], (argsV_den hp h1 (hO' hO)).append (DenL.vs _)⟩
    · rename_i f caps hx
      obtain ⟨hcl, r, hP, hk⟩ := h
      refine call_case f _ r hP hk fun av ν a w hO hp => ?_
      have e1 := opS hp (hO x (by simp [IOp.uses])) h0
      rw [hx] at e1
      simp only [Den] at e1
      obtain ⟨vs, hD, e1⟩ := e1
      obtain ⟨dst, op, ty, pos, after, guard⟩ := oo
      simp only at his
      cases his with
      | callv c x hc => exact ⟨_, by rw [exec_callv hc e1, run_callFunc_ok hcl], (argsV_den hp h1 (hO' hO)).append hD⟩
    · exact h.elim
  | bsl e sz0 n zero0 ps0 =>
    obtain ⟨dst, op, ty, pos, after, guard⟩ := oo
    simp only at his
    cases his with
    | bsl t _ _ ps i z ht hi hz hn hzs =>
    obtain ⟨h1, h1l, h1p, h2, h3, ⟨h5, h6⟩, h⟩ := h
    have hzsz : 0 < z.cells.size := by rw [hzs]; exact h1p
    obtain ⟨hl2, hg2⟩ := partsE_get h2
    have hrl : ∀ q ∈ List.replicate n (z.cells.toList.map C.v), q.length = i.size := fun q hq => by rw [List.eq_of_mem_replicate hq]; simpa using hzs
    obtain ⟨p1, p2, p3, p4⟩ := splice_set (partsE ov ps.toList) (List.replicate n (z.cells.toList.map C.v)) n (by simp) hrl h3
    refine ⟨_, h, fun av ν a w hR hav hF hO hp => ?_⟩
    obtain ⟨us, hf, hD⟩ := fill_splice (ν := ν) (w := w) (O := OO av rs ν) (fun j => some (j * i.size, i.size)) (ps.toList.map fun (j, x) => (j, a.eval x)) ((partsE ov ps.toList).map fun (j, c) => (j * i.size, i.size, c)) _ _
      (by simp [hl2]) (fun j f v hj => by
        simp only [List.getElem?_map, Option.map_eq_some_iff] at hj
        obtain ⟨⟨f', x⟩, hj, he⟩ := hj
        simp only [Prod.mk.injEq] at he
        obtain ⟨rfl, rfl⟩ := he
        obtain ⟨hrq, hpv⟩ := hg2 j _ x hj
        have hmem : x ∈ (IOp.bsl e i.size n z.cells.toList ps.toList).uses := List.mem_map.2 ⟨_, List.mem_of_getElem? hj, rfl⟩
        exact ⟨_, _, _, by rw [List.getElem?_map, hpv]; rfl, rfl, cellsS_den (opS hp (hO x hmem) hrq) (bslOK_get h3 j _ _ hpv)⟩) ((zero_fz z.cells.toList n).den ν) p2
    rw [p1] at hD
    have hcl : C.clL (setParts (List.replicate n (z.cells.toList.map C.v)) (partsE ov ps.toList)).flatten = true := flat_cl (setParts_cl h3 fun e he => by rw [List.eq_of_mem_replicate he]; exact vs_cl _)
    have hon : C.ones (setParts (List.replicate n (z.cells.toList.map C.v)) (partsE ov ps.toList)).flatten = true := flat_ones (setParts_ones h3 fun e he => by rw [List.eq_of_mem_replicate he]; exact vs_ones h1)
    have hul : us.length = n * i.size := by rw [hD.length, flat_len p4, p3]
    have hrun : (execOp a.eval { dst, op := .buildSlice t n ps, type := ty, pos, after, guard }).run E.P w = .ok (.value (.slice (some ⟨w.heap.size, 0, none⟩) n n)) (w.alloc (.cells us.toArray e)) := by
      have hzr : (zeroValue e).run E.P w = .ok z w := by simp [zeroValue, typeInfo, hi, hz]
      have hn' : ¬ n * i.size > 2 ^ 24 := by omega
      have hzf := zeros_flat z.cells n hzsz
      rw [hzs] at hzf
      have hze : ((Array.range (n * i.size)).map fun j => z.cells[j % z.cells.size]!) = (List.replicate n z.cells.toList).flatten.toArray := by
        apply Array.ext'
        rw [hzs, hzf]
      have e1 : (ps.map fun (i, x) => (i, a.eval x)).toList = ps.toList.map fun (i, x) => (i, a.eval x) := by simp
      simp only [execOp, Instr.buildSlice, Sem.run_bind, run_underlying ht w, Result.andThen_ok, sizeOf, typeInfo, run_program, hi, Sem.run_pure, hn', if_false, hn, hzr, hze, e1, hf]
      simp [newRow]
    intro K' Q hK
    unfold Oper.wp
    rw [hrun]
    refine hK _ _ (below_alloc w _) ?_
    refine Fz.den ν (fz_new (ltO hR) p3 p4 (hD.fz hcl) (ones_den hD hon) ?_ (Nat.le_refl _) (by simp only [maxLen]; omega))
    rw [← hul]; exact List.take_length
  | bsl0 e =>
    obtain ⟨dst, op, ty, pos, after, guard⟩ := oo
    simp only at his
    cases his with
    | bsl0 t _ ps i ht hi hps =>
    have hps0 : ps = #[] := Array.eq_empty_of_size_eq_zero hps
    subst hps0
    refine ⟨_, h, fun av ν a w hR hav hF hO hp K' Q hK => ?_⟩
    have hrun : (execOp a.eval { dst, op := .buildSlice t 0 #[], type := ty, pos, after, guard }).run E.P w = .ok (.value (.slice (some ⟨w.heap.size, 0, none⟩) 0 0)) (w.alloc (.cells #[] e)) := by
      simp [execOp, Instr.buildSlice, run_underlying ht w, sizeOf, typeInfo, hi, Instr.fill, newRow, show (Array.range 0 : Array Nat) = #[] from rfl]
    unfold Oper.wp
    rw [hrun]
    exact hK _ _ (below_alloc w _) ⟨_, rfl⟩
  | mksl e by0 zero0 l c =>
    obtain ⟨dst, op, ty, pos, after, guard⟩ := oo
    simp only at his
    cases his with
    | mksl t _ _ _ i z ht hi hz hzs h0 =>
    obtain ⟨h1, h2, h3, h4, h⟩ := h
    have hzsz : 0 < z.cells.size := by simpa using h2
    have hzl : z.cells.toList.length = i.size := by simpa using hzs
    split at h
    · rename_i lv cv hl hc
      obtain ⟨hb, h⟩ := h
      refine ⟨_, h, fun av ν a w hR hav hF hO hp => ?_⟩
      obtain ⟨b0, b1, b2, b3⟩ := hb hp
      have e1 := opS hp (hO l (by simp [IOp.uses])) h3
      have e2 := opS hp (hO c (by simp [IOp.uses])) h4
      rw [hl] at e1
      rw [hc] at e2
      have e1 := den_v e1
      have e2 := den_v e2
      have hlen : ∀ n, (List.replicate n z.cells.toList).flatten.length = n * i.size := fun n => by
        rw [flat_len (sz := i.size) (fun q hq => by rw [List.eq_of_mem_replicate hq]; exact hzl), List.length_replicate]
      have htk : ((List.replicate cv.toNat z.cells.toList).flatten.take (lv.toNat * i.size)) = (List.replicate lv.toNat z.cells.toList).flatten := by
        have : List.replicate cv.toNat z.cells.toList = List.replicate lv.toNat z.cells.toList ++ List.replicate (cv.toNat - lv.toNat) z.cells.toList := by
          rw [List.replicate_append_replicate]; congr 1; omega
        rw [this, List.flatten_append, ← hlen lv.toNat]
        exact List.take_left
      have hone : ∀ u ∈ (List.replicate lv.toNat z.cells.toList).flatten, u.oneCell' = true := fun u hu => by
        obtain ⟨q, hq, hu⟩ := List.mem_flatten.1 hu
        rw [List.eq_of_mem_replicate hq] at hu
        exact oneAll_spec h1 u hu
      have hzf := zeros_flat z.cells cv.toNat hzsz
      rw [hzs] at hzf
      have hze : ((Array.range (cv.toNat * i.size)).map fun j => z.cells[j % z.cells.size]!) = (List.replicate cv.toNat z.cells.toList).flatten.toArray := by
        apply Array.ext'
        rw [hzs, hzf]
      have hb' : (i.bytes : Int) * cv ≤ 281474976710656 := by
        have h3 : (((i.bytes * cv.toNat : Nat) : Int)) ≤ 140737488355328 := by rw [Nat.mul_comm]; omega
        rw [Int.natCast_mul, show ((cv.toNat : Nat) : Int) = cv by omega] at h3
        omega
      have hrun := run_make (P := E.P) w t e i z ht hi hz .i64 .i64 lv cv b0 b1 hb' (by omega)
      unfold madeCells at hrun
      rw [hze] at hrun
      intro K' Q hK
      have hrun' : (execOp a.eval { dst, op := .makeSlice t l c, type := ty, pos, after, guard }).run E.P w = .ok (.value (.slice (some ⟨w.heap.size, 0, none⟩) lv.toNat cv.toNat)) (w.alloc (.cells (List.replicate cv.toNat z.cells.toList).flatten.toArray e)) := by
        simp only [execOp, e1, e2, Sem.run_bind, hrun]
        rfl
      unfold Oper.wp
      rw [hrun']
      refine hK _ _ (below_alloc w _) ?_
      rw [hzl]
      exact Fz.den ν (fz_new (ltO hR) (by simp) (fun q hq => by rw [List.eq_of_mem_replicate hq]; simpa using hzs) (zero_fz _ _) hone htk (by omega) (by simp only [maxLen]; omega))
    · exact h.elim
  | _ => exact pure_case h
end
end Go.Proofs.YtaicmkocmnikjaaDoor.Eng
